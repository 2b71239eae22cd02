/- Texts of ours, joined into one file; each begins with its own remark. -/
import Derived.Test.YtondenmkhfignaaDoorU1
import Derived.Test.YtondenmkhfignaaDoorEvZ
import Derived.Test.YtondenmkhfignaaDoorInsP
import Derived.Test.YtondenmkhfignaaDoorIa
import Derived.Test.YtondenmkhfignaaDoorCodeB
import Derived.Test.YtondenmkhfignaaDoorRepU
/- plain: what is asked of bases, forests and places; parents, depths and ends. -/
set_option linter.unusedSimpArgs false
set_option linter.unusedVariables false
namespace Go.Proofs.YtondenmkhfignaaDoor.Code
open Go.Proofs.YtondenmkhfignaaDoor.Ev

def outOf (f : List Item) (i : Int) : Bool := decide (i < 0) || decide ((f.length : Int) ≤ i)
noncomputable def errF (b : Base) (f : List Item) (l : List Int) : Int := if validB b = true then (if forestOk b.types f = true then (if l.any (outOf f) = true then 2 else 0) else 120) else 100
theorem slI {H : Heap} {a : AV} {l : List Int} (h : SlAt H 1 a (l.map rI)) {i : Nat} {n : Int} (hi : l[i]? = some n) : ∃ p, iaddrK 1 (some a) (some (.int .i64 (i : Int))) = some p ∧ ∀ X, loadK false 1 (H ++ X) (some p) = some (.int .i64 n) := by
  obtain ⟨_, p, h1, h2⟩ := h.get i (rI n) (by rw [List.getElem?_map, hi]; rfl)
  exact ⟨p, h1, fun X => h2.onex X⟩
theorem f50 (f : List Item) (i : Int) (b1 : Nat) (H : Heap) (h1 : Sits H b1 (bItems f)) : cal (evC cprog) false 50 [.int .i64 i, .ptr b1 0 1 0 0] H = some (.bool (outOf f i), H) := by
  rw [cal_of at50]
  have hlen := (sItems [] f).len
  simp only [List.length_map] at hlen
  have g1 := h1.at
  simp only [bItems] at g1
  simp only [c50, hlen, g1, evX, Int.reduceEq, Int.reduceLT, Int.reduceLE, Nat.reduceMul, Nat.reduceMod, evW, fn_eq, evR, Nat.reduceAdd, Nat.reduceLT, Nat.reduceLeDiff, reduceIte, Nat.reduceEqDiff, reduceCtorEq, argEnv, eq_self, if_true, if_false]
  repeat' ((first | rw [guardK_cases] | rw [condK_bool] | rw [guardD_cases]); split <;> simp only [c50, hlen, g1, evX, Int.reduceEq, Int.reduceLT, Int.reduceLE, Nat.reduceMul, Nat.reduceMod, evW, evR, Nat.reduceAdd, Nat.reduceLT, Nat.reduceLeDiff, reduceIte, Nat.reduceEqDiff, reduceCtorEq, argEnv, eq_self, if_true, if_false, *])
  all_goals (simp_all [outOf]; try omega)
theorem f30 (b : Base) (hb : b.Ok) (f : List Item) (a : AV) (hat : a.isTup = false) (l : List Int) (hl : l.length < 9223372036854775807) (H : Heap) (ha : SlAt H 1 a (l.map rI)) : cal (evC cprog) false 30 [eBase b, eItems f, a] H = some (.int .i64 (errF b f l), H) := by
  rw [cal_of at30]
  have h1 := f28 b hb
  simp only [eBase] at h1
  cases hv : validB b with
  | false =>
    simp only [c30, eBase, cells_eItems, isTup_eItems, h1, hv, evX, Int.reduceEq, Int.reduceLT, Int.reduceLE, Nat.reduceMul, Nat.reduceMod, evW, fn_eq, evR, Nat.reduceAdd, Nat.reduceLT, Nat.reduceLeDiff, reduceIte, Nat.reduceEqDiff, reduceCtorEq, argEnv, eq_self, if_true, if_false]
    repeat' ((first | rw [guardK_cases] | rw [condK_bool] | rw [guardD_cases]); split <;> simp only [c30, eBase, cells_eItems, isTup_eItems, h1, hv, evX, Int.reduceEq, Int.reduceLT, Int.reduceLE, Nat.reduceMul, Nat.reduceMod, evW, evR, Nat.reduceAdd, Nat.reduceLT, Nat.reduceLeDiff, reduceIte, Nat.reduceEqDiff, reduceCtorEq, argEnv, eq_self, if_true, if_false, *])
    simp [errF, hv]
  | true =>
    have h2 := f29 b (valid_tys hv) f
    simp only [eBase] at h2
    cases hf : forestOk b.types f with
    | false =>
      simp only [c30, eBase, cells_eItems, isTup_eItems, h1, hv, h2, hf, evX, Int.reduceEq, Int.reduceLT, Int.reduceLE, Nat.reduceMul, Nat.reduceMod, evW, fn_eq, evR, Nat.reduceAdd, Nat.reduceLT, Nat.reduceLeDiff, reduceIte, Nat.reduceEqDiff, reduceCtorEq, argEnv, eq_self, if_true, if_false]
      repeat' ((first | rw [guardK_cases] | rw [condK_bool] | rw [guardD_cases]); split <;> simp only [c30, eBase, cells_eItems, isTup_eItems, h1, hv, h2, hf, evX, Int.reduceEq, Int.reduceLT, Int.reduceLE, Nat.reduceMul, Nat.reduceMod, evW, evR, Nat.reduceAdd, Nat.reduceLT, Nat.reduceLeDiff, reduceIte, Nat.reduceEqDiff, reduceCtorEq, argEnv, eq_self, if_true, if_false, *])
      simp [errF, hv, hf]
    | true =>
      have h65 := containsFunc_ok (g := 46) at49 (indexFunc_ok (sz := 1) (ag := false) at46 rI (fun x => .int .i64 x) lI 50 [.ptr (H.length + 1) 0 1 0 0] (outOf f) (H ++ [bBase b, bItems f]) a l (ha.app _) hl fun x _ => f50 f x (H.length + 1) _ (.mk (by simp)))
      simp only [bBase, bItems] at h65
      cases hc : l.any (outOf f) with
      | false =>
        simp only [c30, eBase, cells_eItems, isTup_eItems, h1, hv, h2, hf, h65, hc, scal_ptr, hat, evX, Int.reduceEq, Int.reduceLT, Int.reduceLE, Nat.reduceMul, Nat.reduceMod, evW, fn_eq, evR, Nat.reduceAdd, Nat.reduceLT, Nat.reduceLeDiff, reduceIte, Nat.reduceEqDiff, reduceCtorEq, argEnv, eq_self, if_true, if_false]
        repeat' ((first | rw [guardK_cases] | rw [condK_bool] | rw [guardD_cases]); split <;> simp only [c30, eBase, cells_eItems, isTup_eItems, h1, hv, h2, hf, h65, hc, scal_ptr, hat, evX, Int.reduceEq, Int.reduceLT, Int.reduceLE, Nat.reduceMul, Nat.reduceMod, evW, evR, Nat.reduceAdd, Nat.reduceLT, Nat.reduceLeDiff, reduceIte, Nat.reduceEqDiff, reduceCtorEq, argEnv, eq_self, if_true, if_false, *])
        simp [errF, hv, hf, hc]
      | true =>
        simp only [c30, eBase, cells_eItems, isTup_eItems, h1, hv, h2, hf, h65, hc, scal_ptr, hat, evX, Int.reduceEq, Int.reduceLT, Int.reduceLE, Nat.reduceMul, Nat.reduceMod, evW, fn_eq, evR, Nat.reduceAdd, Nat.reduceLT, Nat.reduceLeDiff, reduceIte, Nat.reduceEqDiff, reduceCtorEq, argEnv, eq_self, if_true, if_false]
        repeat' ((first | rw [guardK_cases] | rw [condK_bool] | rw [guardD_cases]); split <;> simp only [c30, eBase, cells_eItems, isTup_eItems, h1, hv, h2, hf, h65, hc, scal_ptr, hat, evX, Int.reduceEq, Int.reduceLT, Int.reduceLE, Nat.reduceMul, Nat.reduceMod, evW, evR, Nat.reduceAdd, Nat.reduceLT, Nat.reduceLeDiff, reduceIte, Nat.reduceEqDiff, reduceCtorEq, argEnv, eq_self, if_true, if_false, *])
        simp [errF, hv, hf, hc]
theorem f37 (b : Base) (f : List Item) (hr : Right b f) (i : Nat) (hi : i < f.length) (H : Heap) : cal (evC cprog) false 37 [eBase b, eItems f, .int .i64 (i : Int)] H = some (.int .i64 (par b.types f i), H) := by
  rw [cal_of at37]
  obtain ⟨x, k, t, hx, hk, hkl, ht, _⟩ := hr.item hi
  have ha := aItem hx
  have hat := aTy ht
  rw [← hk] at hat
  have hl := hr.len
  rcases hr.par hx hk ht with ⟨h1, h2, _⟩ | ⟨p, h1, h2, h3, h4, h5, h6⟩
  · rw [h2]
    simp only [c37, eBase, ha, hat, rItem, rTy, h1, evX, Int.reduceEq, Int.reduceLT, Int.reduceLE, Nat.reduceMul, Nat.reduceMod, evW, fn_eq, evR, Nat.reduceAdd, Nat.reduceLT, Nat.reduceLeDiff, reduceIte, Nat.reduceEqDiff, reduceCtorEq, argEnv, eq_self, if_true, if_false]
    repeat' ((first | rw [guardK_cases] | rw [condK_bool] | rw [guardD_cases]); split <;> simp only [c37, eBase, ha, hat, rItem, rTy, h1, evX, Int.reduceEq, Int.reduceLT, Int.reduceLE, Nat.reduceMul, Nat.reduceMod, evW, evR, Nat.reduceAdd, Nat.reduceLT, Nat.reduceLeDiff, reduceIte, Nat.reduceEqDiff, reduceCtorEq, argEnv, eq_self, if_true, if_false, *])
  · rw [h1]
    have n0 : ¬ t.parent < 0 := by omega
    have hw : IntKind.i64.wrap ((i : Int) - 1) = (i : Int) - 1 := wrap_i64 (by omega) (by omega)
    simp only [c37, eBase, ha, hat, rItem, rTy, n0, hw, evX, Int.reduceEq, Int.reduceLT, Int.reduceLE, Nat.reduceMul, Nat.reduceMod, evW, fn_eq, evR, Nat.reduceAdd, Nat.reduceLT, Nat.reduceLeDiff, reduceIte, Nat.reduceEqDiff, reduceCtorEq, argEnv, eq_self, if_true, if_false]
    repeat' ((first | rw [guardK_cases] | rw [condK_bool] | rw [guardD_cases]); split <;> simp only [c37, eBase, ha, hat, rItem, rTy, n0, hw, evX, Int.reduceEq, Int.reduceLT, Int.reduceLE, Nat.reduceMul, Nat.reduceMod, evW, evR, Nat.reduceAdd, Nat.reduceLT, Nat.reduceLeDiff, reduceIte, Nat.reduceEqDiff, reduceCtorEq, argEnv, eq_self, if_true, if_false, *])
    generalize hz : itLim _ _ = z
    have hlast : lastTo f t.parent i = (p : Int) := by
      have e : par b.types f i = lastTo f t.parent i := by unfold par; rw [typ_at hx, hk, tpar_at ht, if_neg n0]
      rw [← e, h1]
    have L := loop_rule (σ := Int) (m := [1, 2, 7]) (env := fun k => [(1, eItems f), (2, .int .i64 k), (7, .int .i64 t.parent)]) (hp := fun _ => H ++ [bBase b])
      (P := fun k r => ∃ T, r = (.exit 0, T, H ++ [bBase b]) ∧ get T 2 = some (.int .i64 (p : Int))) (mu := fun k => (k + 1).toNat)
      (I := fun k => (p : Int) ≤ k ∧ k < (i : Int) ∧ lastTo f t.parent (k + 1).toNat = (p : Int)) (evCode (evC cprog) itLim c37_l0) ?_ ((i : Int) - 1) _ ⟨by omega, by omega, by rw [show ((i : Int) - 1 + 1).toNat = i by omega]; exact hlast⟩ (by rfl) (by simp [bBase]) z hz
    · obtain ⟨_, rfl, T, rfl, hT⟩ := L
      simp only [hT, evX, Int.reduceEq, Int.reduceLT, Int.reduceLE, Nat.reduceMul, Nat.reduceMod, evW, fn_eq, evR, Nat.reduceAdd, Nat.reduceLT, Nat.reduceLeDiff, reduceIte, Nat.reduceEqDiff, reduceCtorEq, argEnv, eq_self, if_true, if_false]
      repeat' ((first | rw [guardK_cases] | rw [condK_bool] | rw [guardD_cases]); split <;> simp only [hT, evX, Int.reduceEq, Int.reduceLT, Int.reduceLE, Nat.reduceMul, Nat.reduceMod, evW, evR, Nat.reduceAdd, Nat.reduceLT, Nat.reduceLeDiff, reduceIte, Nat.reduceEqDiff, reduceCtorEq, argEnv, eq_self, if_true, if_false, *])
    · intro k ⟨i1, i2, i3⟩ E hE
      obtain ⟨j, rfl⟩ : ∃ j : Nat, k = (j : Int) := ⟨k.toNat, by omega⟩
      obtain ⟨y, hy⟩ : ∃ y, f[j]? = some y := ⟨_, List.getElem?_eq_getElem (by omega)⟩
      have hay := aItem hy
      have hwj : IntKind.i64.wrap ((j : Int) - 1) = (j : Int) - 1 := wrap_i64 (by omega) (by omega)
      rw [show ((j : Int) + 1).toNat = j + 1 by omega, lastTo, typ_at hy] at i3
      by_cases hyt : y.type = t.parent
      · rw [if_pos hyt] at i3
        simp only [c37_l0, hE, hay, hyt, rItem, evX, Int.reduceEq, Int.reduceLT, Int.reduceLE, Nat.reduceMul, Nat.reduceMod, evW, fn_eq, evR, Nat.reduceAdd, Nat.reduceLT, Nat.reduceLeDiff, reduceIte, Nat.reduceEqDiff, reduceCtorEq, argEnv, eq_self, if_true, if_false]
        repeat' ((first | rw [guardK_cases] | rw [condK_bool] | rw [guardD_cases]); split <;> simp only [c37_l0, hE, hay, hyt, rItem, evX, Int.reduceEq, Int.reduceLT, Int.reduceLE, Nat.reduceMul, Nat.reduceMod, evW, evR, Nat.reduceAdd, Nat.reduceLT, Nat.reduceLeDiff, reduceIte, Nat.reduceEqDiff, reduceCtorEq, argEnv, eq_self, if_true, if_false, *])
        exact q_exit ⟨_, rfl, by rw [← i3]; rfl⟩
      · rw [if_neg hyt] at i3
        simp only [c37_l0, hE, hay, hyt, hwj, rItem, evX, Int.reduceEq, Int.reduceLT, Int.reduceLE, Nat.reduceMul, Nat.reduceMod, evW, fn_eq, evR, Nat.reduceAdd, Nat.reduceLT, Nat.reduceLeDiff, reduceIte, Nat.reduceEqDiff, reduceCtorEq, argEnv, eq_self, if_true, if_false]
        repeat' ((first | rw [guardK_cases] | rw [condK_bool] | rw [guardD_cases]); split <;> simp only [c37_l0, hE, hay, hyt, hwj, rItem, evX, Int.reduceEq, Int.reduceLT, Int.reduceLE, Nat.reduceMul, Nat.reduceMod, evW, evR, Nat.reduceAdd, Nat.reduceLT, Nat.reduceLeDiff, reduceIte, Nat.reduceEqDiff, reduceCtorEq, argEnv, eq_self, if_true, if_false, *])
        have := (lastTo_lt f t.parent j).2
        exact q_next ((j : Int) - 1) (by rfl) rfl ⟨by omega, by omega, by rw [show ((j : Int) - 1 + 1).toNat = j by omega]; exact i3⟩ (by omega) fun r h => h
theorem f52 (b : Base) (ht : tysOk b.types = true) (k : Nat) (hk : k < b.types.length) (h8 : b.types.length ≤ 1000) (H : Heap) : cal (evC cprog) false 52 [eBase b, .int .i64 (k : Int)] H = some (.int .i64 ((anc b.types k).length : Int), H) := by
  rw [cal_of at52]
  simp only [c52, eBase, evX, Int.reduceEq, Int.reduceLT, Int.reduceLE, Nat.reduceMul, Nat.reduceMod, evW, fn_eq, evR, Nat.reduceAdd, Nat.reduceLT, Nat.reduceLeDiff, reduceIte, Nat.reduceEqDiff, reduceCtorEq, argEnv, eq_self, if_true, if_false]
  repeat' ((first | rw [guardK_cases] | rw [condK_bool] | rw [guardD_cases]); split <;> simp only [c52, eBase, evX, Int.reduceEq, Int.reduceLT, Int.reduceLE, Nat.reduceMul, Nat.reduceMod, evW, evR, Nat.reduceAdd, Nat.reduceLT, Nat.reduceLeDiff, reduceIte, Nat.reduceEqDiff, reduceCtorEq, argEnv, eq_self, if_true, if_false, *])
  generalize hz : itLim _ _ = z
  have key : ∀ H' : Heap, Sits H' H.length (bBase b) → ∀ st : St, keepEnv st.1 [1, 2, 5] = [(1, .int .i64 (k : Int)), (2, .ptr H.length 0 4 0 0), (5, .int .i64 0)] → st.2 = H' → ∀ z, itLim (evCode (evC cprog) itLim c52_l0) st = z → ∃ T, z = some (.exit 0, T, H') ∧ get T 5 = some (.int .i64 ((anc b.types k).length : Int)) := by
    intro H' hs st h1 h2 z hz
    simp only [bBase, Sits] at hs
    have hs0 := hs []
    simp only [List.append_nil] at hs0
    have L := loop_rule (σ := Int × Nat) (m := [1, 2, 5]) (env := fun s => [(1, .int .i64 s.1), (2, .ptr H.length 0 4 0 0), (5, .int .i64 (s.2 : Int))]) (hp := fun _ => H')
      (P := fun s r => ∃ T, r = (.exit 0, T, H') ∧ get T 5 = some (.int .i64 (((ancI b.types s.1).length + s.2 : Nat) : Int))) (mu := fun s => (s.1 + 1).toNat)
      (I := fun s => -1 ≤ s.1 ∧ s.1 < (b.types.length : Int) ∧ s.1 + s.2 ≤ 2000) (evCode (evC cprog) itLim c52_l0) ?_ ((k : Int), 0) st ⟨by simp only; omega, by simp only; omega, by simp only; omega⟩ h1 h2 z hz
    · obtain ⟨_, rfl, T, rfl, hT⟩ := L
      exact ⟨T, rfl, by simpa [ancI_nat] using hT⟩
    · intro ⟨t, n⟩ ⟨i1, i2, i3⟩ E hE
      simp only at i1 i2 i3 hE ⊢
      by_cases h0 : 0 ≤ t
      · obtain ⟨j, rfl⟩ : ∃ j : Nat, t = (j : Int) := ⟨t.toNat, by omega⟩
        obtain ⟨t, hj⟩ : ∃ t, b.types[j]? = some t := ⟨_, List.getElem?_eq_getElem (by omega)⟩
        have ha := aTy hj
        have hgt := tys_good ht j t (by omega) hj
        have hst := anc_step (tys_good ht) (by omega) hj
        have hw := wrapS (i := n) (n := 2001) (by omega) (by omega)
        simp only [c52_l0, hE, h0, ha, hs0, rTy, hw, evX, Int.reduceEq, Int.reduceLT, Int.reduceLE, Nat.reduceMul, Nat.reduceMod, evW, fn_eq, evR, Nat.reduceAdd, Nat.reduceLT, Nat.reduceLeDiff, reduceIte, Nat.reduceEqDiff, reduceCtorEq, argEnv, eq_self, if_true, if_false]
        repeat' ((first | rw [guardK_cases] | rw [condK_bool] | rw [guardD_cases]); split <;> simp only [c52_l0, hE, h0, ha, hs0, rTy, hw, evX, Int.reduceEq, Int.reduceLT, Int.reduceLE, Nat.reduceMul, Nat.reduceMod, evW, evR, Nat.reduceAdd, Nat.reduceLT, Nat.reduceLeDiff, reduceIte, Nat.reduceEqDiff, reduceCtorEq, argEnv, eq_self, if_true, if_false, *])
        refine q_next (t.parent, n + 1) (by rfl) rfl ⟨by omega, by simp only; omega, by simp only; omega⟩ (by simp only; omega) fun r h => ?_
        obtain ⟨T, h3, h⟩ := h
        refine ⟨T, h3, ?_⟩
        rw [ancI_nat, hst, h, List.length_append, List.length_singleton]
        simp only
        congr 3; omega
      · simp only [c52_l0, hE, h0, evX, Int.reduceEq, Int.reduceLT, Int.reduceLE, Nat.reduceMul, Nat.reduceMod, evW, fn_eq, evR, Nat.reduceAdd, Nat.reduceLT, Nat.reduceLeDiff, reduceIte, Nat.reduceEqDiff, reduceCtorEq, argEnv, eq_self, if_true, if_false]
        repeat' ((first | rw [guardK_cases] | rw [condK_bool] | rw [guardD_cases]); split <;> simp only [c52_l0, hE, h0, evX, Int.reduceEq, Int.reduceLT, Int.reduceLE, Nat.reduceMul, Nat.reduceMod, evW, evR, Nat.reduceAdd, Nat.reduceLT, Nat.reduceLeDiff, reduceIte, Nat.reduceEqDiff, reduceCtorEq, argEnv, eq_self, if_true, if_false, *])
        exact q_exit ⟨_, rfl, by rw [ancI_neg _ (by omega)]; simp [Ev.get]⟩
  obtain ⟨T, rfl, hT⟩ := key (H ++ [bBase b]) (.mk (by simp)) _ (by rfl) (by simp [bBase]) z hz
  simp only [hT, evX, Int.reduceEq, Int.reduceLT, Int.reduceLE, Nat.reduceMul, Nat.reduceMod, evW, fn_eq, evR, Nat.reduceAdd, Nat.reduceLT, Nat.reduceLeDiff, reduceIte, Nat.reduceEqDiff, reduceCtorEq, argEnv, eq_self, if_true, if_false]
  repeat' ((first | rw [guardK_cases] | rw [condK_bool] | rw [guardD_cases]); split <;> simp only [hT, evX, Int.reduceEq, Int.reduceLT, Int.reduceLE, Nat.reduceMul, Nat.reduceMod, evW, evR, Nat.reduceAdd, Nat.reduceLT, Nat.reduceLeDiff, reduceIte, Nat.reduceEqDiff, reduceCtorEq, argEnv, eq_self, if_true, if_false, *])
end Go.Proofs.YtondenmkhfignaaDoor.Code

/- plain: ends of subtrees, of the program and of the document. -/
set_option linter.unusedSimpArgs false
set_option linter.unusedVariables false
namespace Go.Proofs.YtondenmkhfignaaDoor.Code
open Go.Proofs.YtondenmkhfignaaDoor.Ev

theorem anc_len8 {b : Base} {f : List Item} (h : Right b f) {k : Nat} (hk : k < b.types.length) : (anc b.types k).length ≤ 5 ∧ b.types.length ≤ 8 := by
  obtain ⟨t, ht⟩ : ∃ t, b.types[k]? = some t := ⟨_, List.getElem?_eq_getElem hk⟩
  have h1 := tell_true.1 h.tys k t ht
  simp only [tyAt, Bool.and_eq_true, decide_eq_true_eq] at h1
  have h2 := h.valid
  simp only [validB, areTys, Bool.and_eq_true, decide_eq_true_eq] at h2
  omega
theorem f32 (b : Base) (f : List Item) (hr : Right b f) (i : Nat) (hi : i < f.length) (H : Heap) : cal (evC cprog) false 32 [eBase b, eItems f, .int .i64 (i : Int)] H = some (.int .i64 (endOf b.types f i : Int), H) := by
  rw [cal_of at32]
  obtain ⟨x, k, t, hx, hk, hkl, ht, _⟩ := hr.item hi
  have ha := aItem hx
  have h8 := anc_len8 hr hkl
  have h67 := f52 b hr.tys k hkl (by omega)
  rw [← hk] at h67
  simp only [eBase] at h67
  have hl := hr.len
  have hlen := (sItems [] f).len
  simp only [List.length_map] at hlen
  have hw := wrapS (i := i) (n := 300) (by omega) (by omega)
  have hd : (anc b.types k).length = (pth b.types f i).length := by rw [pth_len hr i i (Nat.le_refl _) hi, typ_at hx, hk, Int.toNat_natCast]
  rw [hd] at h67
  simp only [c32, eBase, ha, rItem, h67, hw, evX, Int.reduceEq, Int.reduceLT, Int.reduceLE, Nat.reduceMul, Nat.reduceMod, evW, fn_eq, evR, Nat.reduceAdd, Nat.reduceLT, Nat.reduceLeDiff, reduceIte, Nat.reduceEqDiff, reduceCtorEq, argEnv, eq_self, if_true, if_false]
  repeat' ((first | rw [guardK_cases] | rw [condK_bool] | rw [guardD_cases]); split <;> simp only [c32, eBase, ha, rItem, h67, hw, evX, Int.reduceEq, Int.reduceLT, Int.reduceLE, Nat.reduceMul, Nat.reduceMod, evW, evR, Nat.reduceAdd, Nat.reduceLT, Nat.reduceLeDiff, reduceIte, Nat.reduceEqDiff, reduceCtorEq, argEnv, eq_self, if_true, if_false, *])
  generalize hz : itLim _ _ = z
  have key : ∀ H' : Heap, Sits H' H.length (bBase b) → ∀ st : St, keepEnv st.1 [1, 2, 3, 7] = [(1, eItems f), (2, .int .i64 ((i + 1 : Nat) : Int)), (3, .ptr H.length 0 4 0 0), (7, .int .i64 ((pth b.types f i).length : Int))] → st.2 = H' → ∀ z, itLim (evCode (evC cprog) itLim c32_l0) st = z →
      ∃ T, z = some (.exit 0, T, H') ∧ get T 2 = some (.int .i64 (endOf b.types f i : Int)) := by
    intro H' hs st h1 h2 z hz
    simp only [bBase, Sits] at hs
    have hs0 := hs []
    simp only [List.append_nil] at hs0
    have L := loop_rule (σ := Nat) (m := [1, 2, 3, 7]) (env := fun k => [(1, eItems f), (2, .int .i64 (k : Int)), (3, .ptr H.length 0 4 0 0), (7, .int .i64 ((pth b.types f i).length : Int))]) (hp := fun _ => H')
      (P := fun _ r => ∃ T, r = (.exit 0, T, H') ∧ get T 2 = some (.int .i64 (endOf b.types f i : Int))) (mu := fun k => f.length - k)
      (I := fun k => i < k ∧ k ≤ f.length ∧ ∀ j : Nat, i < j → j < k → (i : Int) ∈ pth b.types f j) (evCode (evC cprog) itLim c32_l0) ?_ (i + 1) st ⟨by omega, by omega, fun j h1 h2 => by omega⟩ h1 h2 z hz
    · obtain ⟨_, rfl, T, rfl, hT⟩ := L
      exact ⟨T, rfl, hT⟩
    · intro k ⟨i1, i2, i3⟩ E hE
      by_cases hkl : k < f.length
      · have hk1 : (k : Int) < (f.length : Int) := by omega
        obtain ⟨y, c, u, hy, hc, hcl, hu, _⟩ := hr.item hkl
        have hay := aItem hy
        have h67' := f52 b hr.tys c hcl (by omega)
        rw [← hc] at h67'
        simp only [eBase] at h67'
        have hd' : (anc b.types c).length = (pth b.types f k).length := by rw [pth_len hr k k (Nat.le_refl _) hkl, typ_at hy, hc, Int.toNat_natCast]
        rw [hd'] at h67'
        have hwk := wrapS (i := k) (n := 300) (by omega) (by omega)
        have hiff := below_len hr i1 hkl (IsEnd.way i3 i1 (Nat.le_refl _))
        by_cases hm : (i : Int) ∈ pth b.types f k
        · have hlt : ((pth b.types f i).length : Int) < ((pth b.types f k).length : Int) := by have := hiff.1 hm; omega
          simp only [c32_l0, hE, hk1, hlen, hay, hs0, rItem, h67', hlt, hwk, evX, Int.reduceEq, Int.reduceLT, Int.reduceLE, Nat.reduceMul, Nat.reduceMod, evW, fn_eq, evR, Nat.reduceAdd, Nat.reduceLT, Nat.reduceLeDiff, reduceIte, Nat.reduceEqDiff, reduceCtorEq, argEnv, eq_self, if_true, if_false]
          repeat' ((first | rw [guardK_cases] | rw [condK_bool] | rw [guardD_cases]); split <;> simp only [c32_l0, hE, hk1, hlen, hay, hs0, rItem, h67', hlt, hwk, evX, Int.reduceEq, Int.reduceLT, Int.reduceLE, Nat.reduceMul, Nat.reduceMod, evW, evR, Nat.reduceAdd, Nat.reduceLT, Nat.reduceLeDiff, reduceIte, Nat.reduceEqDiff, reduceCtorEq, argEnv, eq_self, if_true, if_false, *])
          refine q_next (k + 1) (by rfl) rfl ⟨by omega, by omega, fun j h1 h2 => ?_⟩ (by omega) fun r h => h
          by_cases e : j = k
          · subst e; exact hm
          · exact i3 j h1 (by omega)
        · have hlt : ¬ ((pth b.types f i).length : Int) < ((pth b.types f k).length : Int) := fun h => hm (hiff.2 (by omega))
          simp only [c32_l0, hE, hk1, hlen, hay, hs0, rItem, h67', hlt, evX, Int.reduceEq, Int.reduceLT, Int.reduceLE, Nat.reduceMul, Nat.reduceMod, evW, fn_eq, evR, Nat.reduceAdd, Nat.reduceLT, Nat.reduceLeDiff, reduceIte, Nat.reduceEqDiff, reduceCtorEq, argEnv, eq_self, if_true, if_false]
          repeat' ((first | rw [guardK_cases] | rw [condK_bool] | rw [guardD_cases]); split <;> simp only [c32_l0, hE, hk1, hlen, hay, hs0, rItem, h67', hlt, evX, Int.reduceEq, Int.reduceLT, Int.reduceLE, Nat.reduceMul, Nat.reduceMod, evW, evR, Nat.reduceAdd, Nat.reduceLT, Nat.reduceLeDiff, reduceIte, Nat.reduceEqDiff, reduceCtorEq, argEnv, eq_self, if_true, if_false, *])
          refine q_exit ⟨_, rfl, ?_⟩
          rw [(endOf_is b.types f hi).uniq ⟨i1, i2, i3, fun _ => hm⟩]; rfl
      · have hk1 : ¬ (k : Int) < (f.length : Int) := by omega
        simp only [c32_l0, hE, hk1, hlen, evX, Int.reduceEq, Int.reduceLT, Int.reduceLE, Nat.reduceMul, Nat.reduceMod, evW, fn_eq, evR, Nat.reduceAdd, Nat.reduceLT, Nat.reduceLeDiff, reduceIte, Nat.reduceEqDiff, reduceCtorEq, argEnv, eq_self, if_true, if_false]
        repeat' ((first | rw [guardK_cases] | rw [condK_bool] | rw [guardD_cases]); split <;> simp only [c32_l0, hE, hk1, hlen, evX, Int.reduceEq, Int.reduceLT, Int.reduceLE, Nat.reduceMul, Nat.reduceMod, evW, evR, Nat.reduceAdd, Nat.reduceLT, Nat.reduceLeDiff, reduceIte, Nat.reduceEqDiff, reduceCtorEq, argEnv, eq_self, if_true, if_false, *])
        refine q_exit ⟨_, rfl, ?_⟩
        rw [(endOf_is b.types f hi).uniq ⟨i1, i2, i3, fun h => absurd h hkl⟩]; rfl
  obtain ⟨T, rfl, hT⟩ := key (H ++ [bBase b]) (.mk (by simp)) _ (by rfl) (by simp [bBase]) z hz
  simp only [hT, evX, Int.reduceEq, Int.reduceLT, Int.reduceLE, Nat.reduceMul, Nat.reduceMod, evW, fn_eq, evR, Nat.reduceAdd, Nat.reduceLT, Nat.reduceLeDiff, reduceIte, Nat.reduceEqDiff, reduceCtorEq, argEnv, eq_self, if_true, if_false]
  repeat' ((first | rw [guardK_cases] | rw [condK_bool] | rw [guardD_cases]); split <;> simp only [hT, evX, Int.reduceEq, Int.reduceLT, Int.reduceLE, Nat.reduceMul, Nat.reduceMod, evW, evR, Nat.reduceAdd, Nat.reduceLT, Nat.reduceLeDiff, reduceIte, Nat.reduceEqDiff, reduceCtorEq, argEnv, eq_self, if_true, if_false, *])
end Go.Proofs.YtondenmkhfignaaDoor.Code

/- plain: Delete, of the program and of the document. -/
set_option linter.unusedSimpArgs false
set_option linter.unusedVariables false
namespace Go.Proofs.YtondenmkhfignaaDoor.Code
open Go.Proofs.YtondenmkhfignaaDoor.Ev

theorem plain_items (l : List Item) : Plain (l.map rItem) := fz_rItem l
theorem plain_ints (l : List Int) : Plain (l.map rI) := fz_rI l
def eLE (l : List Item) (e : Int) : AV := .tup [eItems l, .int .i64 e]
theorem errF_zero {b : Base} {f : List Item} {l : List Int} (hb : b.Ok) (h : errF b f l = 0) : Right b f ∧ ∀ i ∈ l, 0 ≤ i ∧ i < (f.length : Int) := by
  unfold errF at h
  split at h
  · rename_i hv
    split at h
    · rename_i hf
      split at h
      · cases h
      · rename_i ho
        refine ⟨⟨hb, hv, hf⟩, fun i hi => ?_⟩
        have := List.any_eq_false.1 (Bool.eq_false_iff.2 ho) i hi
        simp only [outOf, Bool.or_eq_true, decide_eq_true_eq] at this
        omega
    · cases h
  · cases h
noncomputable def delR (b : Base) (f : List Item) (i : Int) : List Item := if errF b f [i] = 0 then f.take i.toNat ++ f.drop (endOf b.types f i.toNat) else []
theorem one_slat (H : Heap) (n : Int) (X : Heap) : SlAt (H ++ (X ++ [⟨0, true, 3, 1, [[.int .i64 n]]⟩])) 1 (.ref (H.length + X.length) 0 1 0 1) ([n].map rI) := by
  refine .ref (rows := [rI n]) (k := ⟨0, true, 3, 1, [[.int .i64 n]]⟩) ?_ fun i row hi => ?_
  · simp [curBlk, at_app]
  · cases i with
    | zero => simp at hi; subst hi; exact ⟨rfl, rfl⟩
    | succ i => simp at hi
theorem items_ne {f : List Item} {i : Nat} (h : i < f.length) : ∃ y ys, f = y :: ys := by
  cases f with
  | nil => simp at h
  | cons y ys => exact ⟨y, ys, rfl⟩
theorem f27 {f : List Item} {i : Nat} (h : i < f.length) (hl : f.length ≤ 1000) (H : Heap) : cal (evC cprog) false 27 [eItems f] H = some (.ref H.length 0 2 0 f.length, H ++ [⟨0, true, 46, 2, f.map rItem⟩]) := by
  obtain ⟨y, ys, rfl⟩ := items_ne h
  have := clone_lst (ty := 46) (sz := 2) (bytes := 24) at27 (rItem y) (ys.map rItem) H rfl (by simp [reach] at *; omega)
  rw [List.length_map] at this
  exact this
def zItem : List AV := [.int .i64 0, .str ⟨#[]⟩]
theorem f15 (b : Base) (hb : b.Ok) (f : List Item) (hfl : f.length < 9223372036854775807) (i : Int) (H : Heap) : cal (evC cprog) true 15 [eBase b, eItems f, .int .i64 i] H = some (eLE (delR b f i) (errF b f [i]), H) := by
  rw [cal_of at15]
  have h37 := f30 b hb f (.ref (H.length + 1) 0 1 0 1) rfl [i] (by simp) (H ++ [bBase b, bI i]) (one_slat H i [bBase b])
  simp only [eBase, bBase, bI] at h37
  by_cases he : errF b f [i] = 0
  · obtain ⟨hr, ho⟩ := errF_zero hb he
    obtain ⟨h0, h1⟩ := ho i (by simp)
    obtain ⟨i, rfl⟩ : ∃ j : Nat, i = (j : Int) := ⟨i.toNat, by omega⟩
    have hi : i < f.length := by omega
    have hl := hr.len
    have h39 := f27 hi (by omega)
    have h40 := f32 b f hr i hi
    simp only [eBase] at h40
    have hend := endOf_is b.types f hi
    have h38 := delete_ref (ty := 46) (sz := 2) (bytes := 24) (zero := zItem) at36 rfl (H.length + 2) 0 (f.map rItem) (fun r hr => by obtain ⟨_, _, rfl⟩ := List.mem_map.1 hr; rfl) (H ++ [bBase b, bI i, ⟨0, true, 46, 2, f.map rItem⟩]) (by simp) i (endOf b.types f i) hend.lt (by rw [List.length_map]; exact hend.le)
    simp only [bBase, bI, List.length_map] at h38
    rw [he] at h37
    have hd : delR b f (i : Int) = f.take i ++ f.drop (endOf b.types f i) := by unfold delR; rw [if_pos he, Int.toNat_natCast]
    rw [hd, he]
    simp only [c15, eBase, cells_eItems, isTup_eItems, h37, h39, h40, h38, evX, Int.reduceEq, Int.reduceLT, Int.reduceLE, Nat.reduceMul, Nat.reduceMod, evW, fn_eq, evR, Nat.reduceAdd, Nat.reduceLT, Nat.reduceLeDiff, reduceIte, Nat.reduceEqDiff, reduceCtorEq, argEnv, eq_self, if_true, if_false]
    repeat' ((first | rw [guardK_cases] | rw [condK_bool] | rw [guardD_cases]); split <;> simp only [c15, eBase, cells_eItems, isTup_eItems, h37, h39, h40, h38, evX, Int.reduceEq, Int.reduceLT, Int.reduceLE, Nat.reduceMul, Nat.reduceMod, evW, evR, Nat.reduceAdd, Nat.reduceLT, Nat.reduceLeDiff, reduceIte, Nat.reduceEqDiff, reduceCtorEq, argEnv, eq_self, if_true, if_false, *])
    have hle := hend.le
    have hlt := hend.lt
    have hrows : (f.map rItem).take i ++ (f.map rItem).drop (endOf b.types f i) = (f.take i ++ f.drop (endOf b.types f i)).map rItem := by simp
    have hlen : (f.take i ++ f.drop (endOf b.types f i)).length = i + (f.length - endOf b.types f i) := by simp; omega
    obtain ⟨ids, g1, g2⟩ := fz_blk (H := H ++ [bBase b, bI i, ⟨0, true, 46, 2, (f.map rItem).take i ++ ((f.map rItem).drop (endOf b.types f i) ++ List.replicate (endOf b.types f i - i) zItem)⟩]) (b := H.length + 2) (v := 0) (sz := 2) (len := i + (f.length - endOf b.types f i))
      (k := ⟨0, true, 46, 2, (f.map rItem).take i ++ ((f.map rItem).drop (endOf b.types f i) ++ List.replicate (endOf b.types f i - i) zItem)⟩) (by simp [curBlk]) (rows := (f.take i ++ f.drop (endOf b.types f i)).map rItem) (by
        rw [← List.append_assoc, hrows, List.take_left' (by rw [List.length_map]; exact hlen)]) (plain_items _) 6
    exact frz_two (ids := ids) g1 rfl (by simp) (fun x hx => by have := g2 x hx; omega) _ _
  · rw [show delR b f i = [] from if_neg he]
    simp only [c15, eBase, cells_eItems, isTup_eItems, h37, he, evX, Int.reduceEq, Int.reduceLT, Int.reduceLE, Nat.reduceMul, Nat.reduceMod, evW, fn_eq, evR, Nat.reduceAdd, Nat.reduceLT, Nat.reduceLeDiff, reduceIte, Nat.reduceEqDiff, reduceCtorEq, argEnv, eq_self, if_true, if_false]
    repeat' ((first | rw [guardK_cases] | rw [condK_bool] | rw [guardD_cases]); split <;> simp only [c15, eBase, cells_eItems, isTup_eItems, h37, he, evX, Int.reduceEq, Int.reduceLT, Int.reduceLE, Nat.reduceMul, Nat.reduceMod, evW, evR, Nat.reduceAdd, Nat.reduceLT, Nat.reduceLeDiff, reduceIte, Nat.reduceEqDiff, reduceCtorEq, argEnv, eq_self, if_true, if_false, *])
    exact frz_two (fz_nils _) rfl (by simp) (by simp) _ _
end Go.Proofs.YtondenmkhfignaaDoor.Code

/- plain: fits, keys and Replace, of the program and of the document. -/
set_option linter.unusedSimpArgs false
set_option linter.unusedVariables false
namespace Go.Proofs.YtondenmkhfignaaDoor.Code
open Go.Proofs.YtondenmkhfignaaDoor.Ev

def tyOut (ts : List Ty) (i : Int) : Bool := decide (i < 0) || decide ((ts.length : Int) ≤ i)
noncomputable def errB (b : Base) (l : List Int) : Int := if validB b = true then (if l.any (tyOut b.types) = true then 2 else 0) else 100
theorem Base.Ok.lens {b : Base} (hb : b.Ok) (h : validB b = true) : b.types.length ≤ 8 ∧ b.indexes.length ≤ 3 := by
  simp only [validB, areTys, Bool.and_eq_true, decide_eq_true_eq] at h
  omega
theorem f53 (b : Base) (t : Int) (H : Heap) : cal (evC cprog) false 53 [eBase b, .int .i64 t] H = some (.bool (!tyOut b.types t), H) := by
  rw [cal_of at53]
  have hlen := (sTys [] b.types).len
  simp only [List.length_map] at hlen
  by_cases h0 : 0 ≤ t <;> by_cases h1 : t < (b.types.length : Int)
  all_goals
    have h2 : tyOut b.types t = !(decide (0 ≤ t) && decide (t < (b.types.length : Int))) := by
      unfold tyOut
      by_cases g0 : t < 0 <;> by_cases g1 : (b.types.length : Int) ≤ t <;> simp only [g0, g1, h0, h1, decide_true, decide_false, Bool.or_true, Bool.true_or, Bool.or_false, Bool.and_true, Bool.and_false, Bool.not_true, Bool.not_false, Bool.and_self] <;> omega
    rw [h2]
    simp only [h0, h1, decide_true, decide_false, Bool.and_self, Bool.and_true, Bool.and_false, Bool.not_not]
  · simp only [c53, eBase, hlen, h0, h1, evX, Int.reduceEq, Int.reduceLT, Int.reduceLE, Nat.reduceMul, Nat.reduceMod, evW, fn_eq, evR, Nat.reduceAdd, Nat.reduceLT, Nat.reduceLeDiff, reduceIte, Nat.reduceEqDiff, reduceCtorEq, argEnv, eq_self, if_true, if_false]
    repeat' ((first | rw [guardK_cases] | rw [condK_bool] | rw [guardD_cases]); split <;> simp only [c53, eBase, hlen, h0, h1, evX, Int.reduceEq, Int.reduceLT, Int.reduceLE, Nat.reduceMul, Nat.reduceMod, evW, evR, Nat.reduceAdd, Nat.reduceLT, Nat.reduceLeDiff, reduceIte, Nat.reduceEqDiff, reduceCtorEq, argEnv, eq_self, if_true, if_false, *])
  · simp only [c53, eBase, hlen, h0, h1, evX, Int.reduceEq, Int.reduceLT, Int.reduceLE, Nat.reduceMul, Nat.reduceMod, evW, fn_eq, evR, Nat.reduceAdd, Nat.reduceLT, Nat.reduceLeDiff, reduceIte, Nat.reduceEqDiff, reduceCtorEq, argEnv, eq_self, if_true, if_false]
    repeat' ((first | rw [guardK_cases] | rw [condK_bool] | rw [guardD_cases]); split <;> simp only [c53, eBase, hlen, h0, h1, evX, Int.reduceEq, Int.reduceLT, Int.reduceLE, Nat.reduceMul, Nat.reduceMod, evW, evR, Nat.reduceAdd, Nat.reduceLT, Nat.reduceLeDiff, reduceIte, Nat.reduceEqDiff, reduceCtorEq, argEnv, eq_self, if_true, if_false, *])
  · simp only [c53, eBase, hlen, h0, h1, evX, Int.reduceEq, Int.reduceLT, Int.reduceLE, Nat.reduceMul, Nat.reduceMod, evW, fn_eq, evR, Nat.reduceAdd, Nat.reduceLT, Nat.reduceLeDiff, reduceIte, Nat.reduceEqDiff, reduceCtorEq, argEnv, eq_self, if_true, if_false]
    repeat' ((first | rw [guardK_cases] | rw [condK_bool] | rw [guardD_cases]); split <;> simp only [c53, eBase, hlen, h0, h1, evX, Int.reduceEq, Int.reduceLT, Int.reduceLE, Nat.reduceMul, Nat.reduceMod, evW, evR, Nat.reduceAdd, Nat.reduceLT, Nat.reduceLeDiff, reduceIte, Nat.reduceEqDiff, reduceCtorEq, argEnv, eq_self, if_true, if_false, *])
  · simp only [c53, eBase, hlen, h0, h1, evX, Int.reduceEq, Int.reduceLT, Int.reduceLE, Nat.reduceMul, Nat.reduceMod, evW, fn_eq, evR, Nat.reduceAdd, Nat.reduceLT, Nat.reduceLeDiff, reduceIte, Nat.reduceEqDiff, reduceCtorEq, argEnv, eq_self, if_true, if_false]
    repeat' ((first | rw [guardK_cases] | rw [condK_bool] | rw [guardD_cases]); split <;> simp only [c53, eBase, hlen, h0, h1, evX, Int.reduceEq, Int.reduceLT, Int.reduceLE, Nat.reduceMul, Nat.reduceMod, evW, evR, Nat.reduceAdd, Nat.reduceLT, Nat.reduceLeDiff, reduceIte, Nat.reduceEqDiff, reduceCtorEq, argEnv, eq_self, if_true, if_false, *])
theorem f33 (b : Base) (hb : b.Ok) (a : AV) (l : List Int) (hl : l.length < 9223372036854775807) (H : Heap) (ha : SlAt H 1 a (l.map rI)) : cal (evC cprog) false 33 [eBase b, a] H = some (.int .i64 (errB b l), H) := by
  rw [cal_of at33]
  have h1 := f5 b hb
  have h2 := f53 b
  simp only [eBase] at h1 h2
  have hlen' := ha.len
  simp only [List.length_map] at hlen'
  cases hv : validB b with
  | false =>
    simp only [c33, eBase, h1, hv, evX, Int.reduceEq, Int.reduceLT, Int.reduceLE, Nat.reduceMul, Nat.reduceMod, evW, fn_eq, evR, Nat.reduceAdd, Nat.reduceLT, Nat.reduceLeDiff, reduceIte, Nat.reduceEqDiff, reduceCtorEq, argEnv, eq_self, if_true, if_false]
    repeat' ((first | rw [guardK_cases] | rw [condK_bool] | rw [guardD_cases]); split <;> simp only [c33, eBase, h1, hv, evX, Int.reduceEq, Int.reduceLT, Int.reduceLE, Nat.reduceMul, Nat.reduceMod, evW, evR, Nat.reduceAdd, Nat.reduceLT, Nat.reduceLeDiff, reduceIte, Nat.reduceEqDiff, reduceCtorEq, argEnv, eq_self, if_true, if_false, *])
    simp [errB, hv]
  | true =>
    simp only [c33, eBase, h1, hv, evX, Int.reduceEq, Int.reduceLT, Int.reduceLE, Nat.reduceMul, Nat.reduceMod, evW, fn_eq, evR, Nat.reduceAdd, Nat.reduceLT, Nat.reduceLeDiff, reduceIte, Nat.reduceEqDiff, reduceCtorEq, argEnv, eq_self, if_true, if_false]
    repeat' ((first | rw [guardK_cases] | rw [condK_bool] | rw [guardD_cases]); split <;> simp only [c33, eBase, h1, hv, evX, Int.reduceEq, Int.reduceLT, Int.reduceLE, Nat.reduceMul, Nat.reduceMod, evW, evR, Nat.reduceAdd, Nat.reduceLT, Nat.reduceLeDiff, reduceIte, Nat.reduceEqDiff, reduceCtorEq, argEnv, eq_self, if_true, if_false, *])
    generalize hz : itLim _ _ = z
    have key : ∀ (H' : Heap) (b1 : Nat), Sits H' b1 (bBase b) → SlAt H' 1 a (l.map rI) → ∀ (st : St) (G : Heap), keepEnv st.1 [1, 2, 5] = [(1, a), (2, .ptr b1 0 4 0 0), (5, .int .i64 0)] → st.2 = H' ++ ([] ++ G) → ∀ z, itLim (evCode (evC cprog) itLim c33_l0) st = z →
        (l.all (fun i => !tyOut b.types i) = true ∧ Lv H' [] (fun c T => c = .exit 0) z) ∨ (l.all (fun i => !tyOut b.types i) = false ∧ Lv H' [] (fun c T => c = .ret ∧ get T 4 = some (.int .i64 2)) z) := by
      intro H' b1 hs ha st G hE hH z hz
      simp only [bBase, Sits] at hs
      exact all_rule l _ [1, 2, 5] (fun i => [(1, a), (2, .ptr b1 0 4 0 0), (5, .int .i64 (i : Int))]) H' [] (evCode (evC cprog) itLim c33_l0) _ _
        (fun i x hx E G hE => by
          have hlt : i < l.length := (List.getElem?_eq_some_iff.1 hx).1
          have hi : (i : Int) < (l.length : Int) := by omega
          obtain ⟨p, g1, g2⟩ := slI ha hx
          have hw := wrapS hlt hl
          cases ho : tyOut b.types x with
          | true =>
            simp only [c33_l0, hE, hi, hlen', hs, g1, g2, h2, ho, evX, Int.reduceEq, Int.reduceLT, Int.reduceLE, Nat.reduceMul, Nat.reduceMod, evW, fn_eq, evR, Nat.reduceAdd, Nat.reduceLT, Nat.reduceLeDiff, reduceIte, Nat.reduceEqDiff, reduceCtorEq, argEnv, eq_self, if_true, if_false]
            repeat' ((first | rw [guardK_cases] | rw [condK_bool] | rw [guardD_cases]); split <;> simp only [c33_l0, hE, hi, hlen', hs, g1, g2, h2, ho, evX, Int.reduceEq, Int.reduceLT, Int.reduceLE, Nat.reduceMul, Nat.reduceMod, evW, evR, Nat.reduceAdd, Nat.reduceLT, Nat.reduceLeDiff, reduceIte, Nat.reduceEqDiff, reduceCtorEq, argEnv, eq_self, if_true, if_false, *])
            exact Sc.ret rfl ⟨rfl, rfl⟩
          | false =>
            simp only [c33_l0, hE, hi, hlen', hs, g1, g2, h2, ho, hw, evX, Int.reduceEq, Int.reduceLT, Int.reduceLE, Nat.reduceMul, Nat.reduceMod, evW, fn_eq, evR, Nat.reduceAdd, Nat.reduceLT, Nat.reduceLeDiff, reduceIte, Nat.reduceEqDiff, reduceCtorEq, argEnv, eq_self, if_true, if_false]
            repeat' ((first | rw [guardK_cases] | rw [condK_bool] | rw [guardD_cases]); split <;> simp only [c33_l0, hE, hi, hlen', hs, g1, g2, h2, ho, hw, evX, Int.reduceEq, Int.reduceLT, Int.reduceLE, Nat.reduceMul, Nat.reduceMod, evW, evR, Nat.reduceAdd, Nat.reduceLT, Nat.reduceLeDiff, reduceIte, Nat.reduceEqDiff, reduceCtorEq, argEnv, eq_self, if_true, if_false, *])
            exact Sc.next rfl (by rfl))
        (fun E G hE => by
          simp only [c33_l0, hE, hlen', Int.lt_irrefl, evX, Int.reduceEq, Int.reduceLT, Int.reduceLE, Nat.reduceMul, Nat.reduceMod, evW, fn_eq, evR, Nat.reduceAdd, Nat.reduceLT, Nat.reduceLeDiff, reduceIte, Nat.reduceEqDiff, reduceCtorEq, argEnv, eq_self, if_true, if_false]
          repeat' ((first | rw [guardK_cases] | rw [condK_bool] | rw [guardD_cases]); split <;> simp only [c33_l0, hE, hlen', Int.lt_irrefl, evX, Int.reduceEq, Int.reduceLT, Int.reduceLE, Nat.reduceMul, Nat.reduceMod, evW, evR, Nat.reduceAdd, Nat.reduceLT, Nat.reduceLeDiff, reduceIte, Nat.reduceEqDiff, reduceCtorEq, argEnv, eq_self, if_true, if_false, *])
          exact .exit (K := []) rfl) st G hE hH z hz
    rcases key (H ++ [bBase b]) H.length (.mk (by simp)) (ha.app _) _ [] (by rfl) (by simp [bBase]) z hz with ⟨ha, c, T, G, rfl, _, rfl⟩ | ⟨ha, c, T, G, rfl, _, rfl, hT⟩
    · simp only [evX, Int.reduceEq, Int.reduceLT, Int.reduceLE, Nat.reduceMul, Nat.reduceMod, evW, fn_eq, evR, Nat.reduceAdd, Nat.reduceLT, Nat.reduceLeDiff, reduceIte, Nat.reduceEqDiff, reduceCtorEq, argEnv, eq_self, if_true, if_false]
      repeat' ((first | rw [guardK_cases] | rw [condK_bool] | rw [guardD_cases]); split <;> simp only [evX, Int.reduceEq, Int.reduceLT, Int.reduceLE, Nat.reduceMul, Nat.reduceMod, evW, evR, Nat.reduceAdd, Nat.reduceLT, Nat.reduceLeDiff, reduceIte, Nat.reduceEqDiff, reduceCtorEq, argEnv, eq_self, if_true, if_false, *])
      have : l.any (tyOut b.types) = false := by rw [List.any_eq_false]; intro x hx; have := List.all_eq_true.1 ha x hx; simpa using this
      simp [errB, hv, this]
    · simp only [hT, evX, Int.reduceEq, Int.reduceLT, Int.reduceLE, Nat.reduceMul, Nat.reduceMod, evW, fn_eq, evR, Nat.reduceAdd, Nat.reduceLT, Nat.reduceLeDiff, reduceIte, Nat.reduceEqDiff, reduceCtorEq, argEnv, eq_self, if_true, if_false]
      repeat' ((first | rw [guardK_cases] | rw [condK_bool] | rw [guardD_cases]); split <;> simp only [hT, evX, Int.reduceEq, Int.reduceLT, Int.reduceLE, Nat.reduceMul, Nat.reduceMod, evW, evR, Nat.reduceAdd, Nat.reduceLT, Nat.reduceLeDiff, reduceIte, Nat.reduceEqDiff, reduceCtorEq, argEnv, eq_self, if_true, if_false, *])
      have : l.any (tyOut b.types) = true := by
        obtain ⟨x, hx, h⟩ := List.all_eq_false.1 ha
        rw [List.any_eq_true]; exact ⟨x, hx, by simpa using h⟩
      simp [errB, hv, this]
theorem errB_ok {b : Base} (hv : validB b = true) {k : Nat} (hk : k < b.types.length) : errB b [(k : Int)] = 0 := by
  have h : tyOut b.types (k : Int) = false := by simp [tyOut]; omega
  unfold errB
  rw [if_pos hv, if_neg (by simp [h])]
end Go.Proofs.YtondenmkhfignaaDoor.Code

/- siblings further apart (as in wip/logic/Yr) -/
set_option linter.unusedSimpArgs false
set_option linter.unusedVariables false
namespace Go.Proofs.YtondenmkhfignaaDoor.Code
open Go.Proofs.YtondenmkhfignaaDoor.Ev

theorem less_trans : ∀ x y z : List UInt8, Op.bytesLess x y = true → Op.bytesLess y z = true → Op.bytesLess x z = true
  | x, y, [], _, h2 => by cases y <;> simp [Op.bytesLess] at h2
  | [], _, c :: z, _, _ => by simp [Op.bytesLess]
  | a :: x, [], c :: z, h1, _ => by simp [Op.bytesLess] at h1
  | a :: x, b :: y, c :: z, h1, h2 => by
    simp only [Op.bytesLess, Bool.or_eq_true, decide_eq_true_eq, Bool.and_eq_true, beq_iff_eq] at h1 h2 ⊢
    rcases h1 with h1 | ⟨rfl, h1⟩ <;> rcases h2 with h2 | ⟨rfl, h2⟩
    · exact .inl (by rw [UInt8.lt_iff_toNat_lt] at *; omega)
    · exact .inl h1
    · exact .inl h2
    · exact .inr ⟨rfl, less_trans x y z h1 h2⟩
theorem inOrd_trans {t : Ty} {a c d : ByteArray} (h1 : inOrd t a c = true) (h2 : inOrd t c d = true) : inOrd t a d = true := by
  simp only [inOrd, Bool.or_eq_true, decide_eq_true_eq, Bool.and_eq_true] at *
  rcases h1 with (h1 | h1) | ⟨h1, h1'⟩
  · exact .inl (.inl h1)
  · rcases h2 with (h2 | h2) | ⟨h2, _⟩
    · exact .inl (.inl h2)
    · exact .inl (.inr (less_trans _ _ _ h1 h2))
    · rw [← h2]; exact .inl (.inr h1)
  · rcases h2 with (h2 | h2) | ⟨h2, h2'⟩
    · exact .inl (.inl h2)
    · rw [h1]; exact .inl (.inr h2)
    · exact .inr ⟨h1.trans h2, h1'⟩
theorem ord_trans {ts : List Ty} {f : List Item} {c : Int} {j : Nat} {y x : Item} (hy : f[j]? = some y) (h1 : ordOk ts f c y = true) (h2 : ordOk ts f (j : Int) x = true) : ordOk ts f c x = true := by
  simp only [ordOk, Bool.or_eq_true, decide_eq_true_eq, Bool.and_eq_true, typ_at hy, dat_at hy] at *
  rcases h1 with h1 | ⟨h1, h1'⟩ <;> rcases h2 with h2 | ⟨h2, h2'⟩
  · exact .inl (by omega)
  · exact .inl (by omega)
  · exact .inl (by omega)
  · exact .inr ⟨by omega, by rw [h2] at h1'; exact inOrd_trans h1' h2'⟩
/-- the child of an item's parent on an earlier way may stand ahead of it -/
theorem sib_far {b : Base} {f : List Item} (h : Right b f) {i : Nat} {x : Item} (hx : f[i]? = some x) : ∀ (n j : Nat), i - 1 - j = n → j < i → (par b.types f i < 0 ∨ par b.types f i ∈ pth b.types f j) → ∀ c, (pth b.types f j)[nOf b.types f i]? = some c → ordOk b.types f c x = true := by
  have hi := (List.getElem?_eq_some_iff.1 hx).1
  have hok := h.ok i x hi hx
  intro n
  induction n with
  | zero =>
    intro j hn hj _ c hc
    obtain ⟨i, rfl⟩ : ∃ i', i = i' + 1 := ⟨i - 1, by omega⟩
    obtain rfl : j = i := by omega
    simp only [okAt, Bool.and_eq_true] at hok
    have := hok.2
    have hw : (way b.types f (j + 1))[nOf b.types f (j + 1)]? = some c := hc
    simpa only [sibOk, hw] using this
  | succ n ih =>
    intro j hn hj hp c hc
    have hj1 : j + 1 < f.length := by omega
    obtain ⟨y, hy⟩ : ∃ y, f[j + 1]? = some y := ⟨_, List.getElem?_eq_getElem hj1⟩
    obtain ⟨hcut, hle⟩ := way_cut h hj1
    change pth b.types f (j + 1) = (pth b.types f j).take _ ++ _ at hcut
    change _ ≤ (pth b.types f j).length at hle
    have hb := par_lt b.types f i
    -- the parent is on the next way too
    have hp' : par b.types f i < 0 ∨ par b.types f i ∈ pth b.types f (j + 1) := by
      rcases hp with hp | hp
      · exact .inl hp
      · by_cases h0 : par b.types f i < 0
        · exact .inl h0
        · have hbp := pth_bound hp
          have hm := ok_par hx hok (by omega)
          obtain ⟨i', rfl⟩ : ∃ i', i = i' + 1 := ⟨i - 1, by omega⟩
          exact .inr (way_between (Nat.le_refl _) h.ok i' (by omega) _ hm (j + 1) (by omega) (by omega))
    have hS := ih (j + 1) (by omega) (by omega) hp'
    rcases Nat.lt_trichotomy (nOf b.types f i) (nOf b.types f (j + 1)) with hlt | heq | hgt
    · refine hS c ?_
      rw [hcut, List.getElem?_append_left (by rw [List.length_take]; omega), List.getElem?_take, if_pos hlt]; exact hc
    · have h1 : ordOk b.types f ((j + 1 : Nat) : Int) x = true := hS _ (by
        rw [hcut, List.getElem?_append_right (by rw [List.length_take]; omega), List.length_take, Nat.min_eq_left hle, heq]; simp)
      have h2 := h.ok (j + 1) y hj1 hy
      simp only [okAt, Bool.and_eq_true] at h2
      have h3 := h2.2
      have hw : (way b.types f (j + 1))[nOf b.types f (j + 1)]? = some c := by rw [← heq]; exact hc
      simp only [sibOk, hw] at h3
      exact ord_trans hy h3 h1
    · exfalso
      rcases hp' with h0 | hm
      · have : nOf b.types f i = 0 := by unfold nOf; rw [pthI_neg _ _ h0]; rfl
        omega
      · have hbp := pth_bound hm
        rcases hp with hp | hp
        · omega
        have hbj := pth_bound hp
        obtain ⟨q, hq⟩ : ∃ q : Nat, par b.types f i = (q : Int) := ⟨(par b.types f i).toNat, by omega⟩
        have hno : nOf b.types f i = (pth b.types f q).length := by unfold nOf; rw [hq, pthI_nat]
        rw [hq] at hm
        obtain ⟨m, hmm⟩ := List.getElem?_of_mem hm
        have ht : (pth b.types f (j + 1)).take (m + 1) = pth b.types f q := take_anc (pts b.types f) (good_pts b.types f) (by rw [pts_len]; exact Nat.le_refl _) (j + 1) (j + 1) (Nat.le_refl _) (by omega) m _ hmm
        have hml := (List.getElem?_eq_some_iff.1 hmm).1
        have hmn : (pth b.types f q).length = m + 1 := by rw [← ht, List.length_take]; omega
        rw [hcut] at hml hmm
        simp only [List.length_append, List.length_take, Nat.min_eq_left hle, List.length_singleton] at hml
        have e : m = nOf b.types f (j + 1) := by omega
        rw [List.getElem?_append_right (by rw [List.length_take]; omega), List.length_take, Nat.min_eq_left hle, e] at hmm
        simp at hmm
        omega
theorem nil_slat (H : Heap) : SlAt H 1 .nils (([] : List Int).map rI) := out_slat (.nils 0 1 3 H) [] rfl (by simp)
end Go.Proofs.YtondenmkhfignaaDoor.Code

/- plain: the children of an item, and where a new one stands: mathematics. -/
set_option linter.unusedSimpArgs false
set_option linter.unusedVariables false
namespace Go.Proofs.YtondenmkhfignaaDoor.Code
open Go.Proofs.YtondenmkhfignaaDoor.Ev

/-- the children of an item (or the roots, for -1) up to a place -/
def chTo (b : Base) (f : List Item) (p : Int) (n : Nat) : List Nat := (List.range n).filter fun k => decide (par b.types f k = p)
def chl (b : Base) (f : List Item) (p : Int) : List Nat := chTo b f p f.length
theorem mem_chTo {b : Base} {f : List Item} {p : Int} {n k : Nat} : k ∈ chTo b f p n ↔ k < n ∧ par b.types f k = p := by
  simp [chTo]
theorem chTo_succ (b : Base) (f : List Item) (p : Int) (n : Nat) : chTo b f p (n + 1) = chTo b f p n ++ (if par b.types f n = p then [n] else []) := by
  unfold chTo
  rw [List.range_succ, List.filter_append]
  congr 1
  by_cases h : par b.types f n = p
  · rw [if_pos h]; simp [h]
  · rw [if_neg h]; simp [h]
theorem chTo_same {b : Base} {f : List Item} {p : Int} {m : Nat} : ∀ {n : Nat}, m ≤ n → (∀ j, m ≤ j → j < n → par b.types f j ≠ p) → chTo b f p n = chTo b f p m := by
  intro n
  induction n with
  | zero => intro h _; rw [show m = 0 by omega]
  | succ n ih =>
    intro h hj
    by_cases e : m = n + 1
    · rw [e]
    · rw [chTo_succ, if_neg (hj n (by omega) (by omega)), List.append_nil]
      exact ih (by omega) fun j h1 h2 => hj j h1 (by omega)
/-- where the children of an item end -/
def kidEnd (b : Base) (f : List Item) (p : Int) : Nat := if p < 0 then f.length else endOf b.types f p.toNat
theorem par_mem {b : Base} {f : List Item} {j : Nat} (hj : j < f.length) {p : Nat} (h : par b.types f j = (p : Int)) : (p : Int) ∈ pth b.types f j := by
  rw [pth_eq b.types f hj, h, pthI_nat]
  exact List.mem_append_left _ (pth_self ..)
theorem mem_par {b : Base} {f : List Item} {j : Nat} (hj : j < f.length) {a : Int} (h : a ∈ pth b.types f j) (hne : a ≠ (j : Int)) : 0 ≤ par b.types f j ∧ a ∈ pth b.types f (par b.types f j).toNat := by
  rw [pth_eq b.types f hj] at h
  rcases List.mem_append.1 h with h | h
  · by_cases h0 : par b.types f j < 0
    · rw [pthI_neg _ _ h0] at h; cases h
    · obtain ⟨q, hq⟩ : ∃ q : Nat, par b.types f j = (q : Int) := ⟨(par b.types f j).toNat, by omega⟩
      rw [hq, pthI_nat] at h
      exact ⟨by omega, by rw [hq]; exact h⟩
  · simp at h; exact absurd h hne
/-- the place behind a child's subtree: the next child, or the end -/
theorem next_child {b : Base} {f : List Item} (h : Right b f) {p : Int} (hp : -1 ≤ p) {k : Nat} (hk : k < f.length) (hkp : par b.types f k = p) :
    (∀ j, k < j → j < endOf b.types f k → par b.types f j ≠ p) ∧ (∀ e, e = endOf b.types f k → e < f.length → (p < 0 ∨ p ∈ pth b.types f e) → par b.types f e = p) := by
  have he := endOf_is b.types f hk
  have hpk := par_lt b.types f k
  refine ⟨fun j h1 h2 hc => ?_, fun e e0 hel hsub => ?_⟩
  · have hjl : j < f.length := by have := he.le; omega
    have hm := he.all j h1 h2
    obtain ⟨h3, h4⟩ := mem_par hjl hm (by omega)
    have := (pth_bound h4).2
    omega
  · subst e0
    have hno := he.no hel
    have hlt := he.lt
    have hpe := par_lt b.types f (endOf b.types f k)
    generalize endOf b.types f k = e at *
    apply Classical.byContradiction
    intro hc
    -- the parent is behind p
    have hq : p < par b.types f e := by
      rcases hsub with hs | hs
      · omega
      · obtain ⟨h3, h4⟩ := mem_par hel hs (by omega)
        have := (pth_bound h4).2
        omega
    obtain ⟨q, hqq⟩ : ∃ q : Nat, par b.types f e = (q : Int) := ⟨(par b.types f e).toNat, by omega⟩
    have hqe := par_mem hel hqq
    by_cases hqk : q ≤ k
    · have := way_between (Nat.le_refl _) h.ok e hel (q : Int) hqe k (by omega) (by omega)
      by_cases e1 : q = k
      · subst e1; exact hno hqe
      · obtain ⟨h3, h4⟩ := mem_par hk this (by omega)
        have := (pth_bound h4).2
        omega
    · have := he.all q (by omega) (by omega)
      exact hno (anc_trans _ hqe this)
theorem kid_first {b : Base} {f : List Item} (h : Right b f) {p : Int} (hp : -1 ≤ p) (hpl : p < (f.length : Int)) {s : Nat} (hs : (s : Int) = p + 1) : chTo b f p s = [] ∧ s ≤ kidEnd b f p ∧ (s < kidEnd b f p → par b.types f s = p) ∧ kidEnd b f p ≤ f.length := by
  have hno : chTo b f p s = [] := by
    rw [List.eq_nil_iff_forall_not_mem]
    intro k hk
    have := mem_chTo.1 hk
    have := par_lt b.types f k
    omega
  unfold kidEnd
  by_cases h0 : p < 0
  · rw [if_pos h0]
    have hs0 : s = 0 := by omega
    subst hs0
    refine ⟨hno, Nat.zero_le _, fun hl => ?_, Nat.le_refl _⟩
    have := par_lt b.types f 0
    omega
  · rw [if_neg h0]
    obtain ⟨q, rfl⟩ : ∃ q : Nat, p = (q : Int) := ⟨p.toNat, by omega⟩
    rw [Int.toNat_natCast]
    have he := endOf_is b.types f (i := q) (by omega)
    have hsq : s = q + 1 := by omega
    subst hsq
    refine ⟨hno, he.lt, fun hl => ?_, he.le⟩
    have hsl : q + 1 < f.length := by have := he.le; omega
    have hm := he.all (q + 1) (by omega) hl
    obtain ⟨h3, h4⟩ := mem_par hsl hm (by omega)
    have := (pth_bound h4).2
    have := par_lt b.types f (q + 1)
    omega
theorem kid_last {b : Base} {f : List Item} (h : Right b f) {p : Int} (hp : -1 ≤ p) (hpl : p < (f.length : Int)) : chl b f p = chTo b f p (kidEnd b f p) := by
  unfold chl kidEnd
  by_cases h0 : p < 0
  · rw [if_pos h0]
  · rw [if_neg h0]
    obtain ⟨q, rfl⟩ : ∃ q : Nat, p = (q : Int) := ⟨p.toNat, by omega⟩
    rw [Int.toNat_natCast]
    have he := endOf_is b.types f (i := q) (by omega)
    refine chTo_same he.le fun j h1 h2 hc => ?_
    have hm := par_mem h2 hc
    have hel : endOf b.types f q < f.length := by omega
    exact he.no hel (way_between (Nat.le_refl _) h.ok j h2 (q : Int) hm _ (by have := he.lt; omega) h1)
theorem kid_sub {b : Base} {f : List Item} {p : Int} (hp : -1 ≤ p) (hpl : p < (f.length : Int)) {e : Nat} (h1 : p < (e : Int)) (h2 : e < kidEnd b f p) : p < 0 ∨ p ∈ pth b.types f e := by
  unfold kidEnd at h2
  by_cases h0 : p < 0
  · exact .inl h0
  · rw [if_neg h0] at h2
    obtain ⟨q, rfl⟩ : ∃ q : Nat, p = (q : Int) := ⟨p.toNat, by omega⟩
    rw [Int.toNat_natCast] at h2
    exact .inr ((endOf_is b.types f (i := q) (by omega)).all e (by omega) h2)
theorem kid_end_le {b : Base} {f : List Item} (h : Right b f) {p : Int} (hp : -1 ≤ p) (hpl : p < (f.length : Int)) {k : Nat} (hk : k < kidEnd b f p) (hkp : par b.types f k = p) : endOf b.types f k ≤ kidEnd b f p := by
  have hkl : k < f.length := by
    have := (kid_first h hp hpl (s := (p + 1).toNat) (by omega)).2.2.2
    omega
  have he := endOf_is b.types f hkl
  unfold kidEnd at *
  by_cases h0 : p < 0
  · rw [if_pos h0]; exact he.le
  · rw [if_neg h0] at hk ⊢
    obtain ⟨q, rfl⟩ : ∃ q : Nat, p = (q : Int) := ⟨p.toNat, by omega⟩
    rw [Int.toNat_natCast] at *
    have hq := endOf_is b.types f (i := q) (by omega)
    apply Classical.byContradiction
    intro hc
    have hql : endOf b.types f q < f.length := by have := he.le; omega
    have hm := he.all (endOf b.types f q) hk (by omega)
    exact hq.no hql (anc_trans _ hm (par_mem hkl hkp))
/-- a step of the program's walk over children -/
theorem kid_step {b : Base} {f : List Item} (h : Right b f) {p : Int} (hp : -1 ≤ p) (hpl : p < (f.length : Int)) {k : Nat} (hk : k < kidEnd b f p) (hkp : par b.types f k = p) :
    k < endOf b.types f k ∧ endOf b.types f k ≤ kidEnd b f p ∧ (endOf b.types f k < kidEnd b f p → par b.types f (endOf b.types f k) = p) ∧ chTo b f p (endOf b.types f k) = chTo b f p k ++ [k] := by
  have hle := (kid_first h hp hpl (s := (p + 1).toNat) (by omega)).2.2.2
  have hkl : k < f.length := by omega
  have he := endOf_is b.types f hkl
  have h1 := kid_end_le h hp hpl hk hkp
  obtain ⟨h2, h3⟩ := next_child h hp hkl hkp
  have hpk := par_lt b.types f k
  have hlt := he.lt
  refine ⟨hlt, h1, fun h4 => h3 _ rfl (by omega) (kid_sub hp hpl (by omega) h4), ?_⟩
  rw [chTo_same (m := k + 1) (by omega) fun j a1 a2 => h2 j (by omega) a2, chTo_succ, if_pos hkp]
/- where a new one stands -/
def kKey (b : Base) (f : List Item) (t : Int) (k : Nat) : ByteArray := keyOf (tyOf b.types t) (dat f (k : Int))
def front (b : Base) (f : List Item) (t : Int) (s : ByteArray) (k : Nat) : Bool :=
  decide (typ f (k : Int) < t) || (decide (typ f (k : Int) = t) && (bLt (kKey b f t k) s || (decide (kKey b f t k = s) && (tyOf b.types t).last)))
theorem front_mono {b : Base} {f : List Item} (h : Right b f) {p : Int} {k k' : Nat} (hkk : k < k') (hk' : k' < f.length) (h1 : par b.types f k = p) (h2 : par b.types f k' = p) {t : Int} {s : ByteArray} (hf : front b f t s k' = true) : front b f t s k = true := by
  obtain ⟨x, hx⟩ : ∃ x, f[k']? = some x := ⟨_, List.getElem?_eq_getElem hk'⟩
  have hkl : k < f.length := by omega
  have hpth := pth_eq b.types f hkl
  have hcond : par b.types f k' < 0 ∨ par b.types f k' ∈ pth b.types f k := by
    by_cases h0 : par b.types f k' < 0
    · exact .inl h0
    · obtain ⟨q, hq⟩ : ∃ q : Nat, p = (q : Int) := ⟨p.toNat, by omega⟩
      rw [h2, hq]
      exact .inr (par_mem hkl (by rw [h1, hq]))
  have hc : (pth b.types f k)[nOf b.types f k']? = some (k : Int) := by
    unfold nOf
    rw [hpth, h1, h2]
    simp
  have ho := sib_far h hx (k' - 1 - k) k rfl hkk hcond (k : Int) hc
  simp only [front, ordOk, typ_at hx, Bool.or_eq_true, Bool.and_eq_true, decide_eq_true_eq] at hf ho ⊢
  rcases ho with ho | ⟨ho, hi⟩
  · rcases hf with hf | ⟨hf, _⟩
    · exact .inl (by omega)
    · exact .inl (by omega)
  · rcases hf with hf | ⟨hf, hs⟩
    · exact .inl (by omega)
    · refine .inr ⟨by omega, ?_⟩
      have hkx : kKey b f t k' = keyOf (tyOf b.types t) x.data := by unfold kKey; rw [dat_at hx]
      have hkk : kKey b f t k = keyOf (tyOf b.types t) (dat f (k : Int)) := rfl
      rw [hf] at hi
      simp only [inOrd, Bool.or_eq_true, Bool.and_eq_true, decide_eq_true_eq] at hi
      rw [← hkx, ← hkk] at hi
      rcases hi with (hi | hi) | ⟨hi, _⟩
      · have e1 : kKey b f t k = kKey b f t k' := by
          unfold kKey keyOf; rw [if_pos hi, if_pos hi]
        rw [e1]; exact hs
      · rcases hs with hs | ⟨hs, _⟩
        · exact .inl (less_trans _ _ _ hi hs)
        · exact .inl (by rw [← hs]; exact hi)
      · rw [hi]; exact hs
def atP (b : Base) (f : List Item) (t : Int) (s : ByteArray) (st : Nat × Bool) (k : Nat) : Nat × Bool :=
  ((if (st.2 || !front b f t s k) = true then st.1 else endOf b.types f k), st.2 || !front b f t s k)
def atD (b : Base) (f : List Item) (t : Int) (s : ByteArray) (at' k : Nat) : Nat := if front b f t s k = true then endOf b.types f k else at'
theorem plAt_behind (b : Base) (f : List Item) (t : Int) (s : ByteArray) : ∀ (l : List Nat) (a : Nat), (l.foldl (atP b f t s) (a, true)).1 = a
  | [], a => rfl
  | k :: l, a => by
    rw [List.foldl_cons, show atP b f t s (a, true) k = (a, true) by simp [atP]]
    exact plAt_behind b f t s l a
theorem plAt_none (b : Base) (f : List Item) (t : Int) (s : ByteArray) : ∀ (l : List Nat) (a : Nat), (∀ k ∈ l, front b f t s k = false) → l.foldl (atD b f t s) a = a
  | [], a, _ => rfl
  | k :: l, a, h => by
    rw [List.foldl_cons, show atD b f t s a k = a by simp [atD, h k (List.mem_cons_self ..)]]
    exact plAt_none b f t s l a fun j hj => h j (List.mem_cons_of_mem _ hj)
theorem plAt_same (b : Base) (f : List Item) (t : Int) (s : ByteArray) : ∀ (l : List Nat) (a : Nat), l.Pairwise (fun k k' => front b f t s k' = true → front b f t s k = true) → (l.foldl (atP b f t s) (a, false)).1 = l.foldl (atD b f t s) a
  | [], a, _ => rfl
  | k :: l, a, h => by
    rw [List.pairwise_cons] at h
    rw [List.foldl_cons, List.foldl_cons]
    cases hf : front b f t s k with
    | true =>
      rw [show atP b f t s (a, false) k = (endOf b.types f k, false) by simp [atP, hf], show atD b f t s a k = endOf b.types f k by simp [atD, hf]]
      exact plAt_same b f t s l _ h.2
    | false =>
      rw [show atP b f t s (a, false) k = (a, true) by simp [atP, hf], show atD b f t s a k = a by simp [atD, hf], plAt_behind, plAt_none]
      intro j hj
      cases hc : front b f t s j with
      | false => rfl
      | true => rw [h.1 j hj hc] at hf; cases hf
theorem chl_rise (b : Base) (f : List Item) (p : Int) : (chl b f p).Pairwise (· < ·) := by
  unfold chl chTo
  exact List.Pairwise.filter _ List.pairwise_lt_range
theorem chl_mono {b : Base} {f : List Item} (h : Right b f) (p t : Int) (s : ByteArray) : (chl b f p).Pairwise (fun k k' => front b f t s k' = true → front b f t s k = true) := by
  refine List.pairwise_iff_getElem.2 fun i j hi hj hij hf => ?_
  have hlt := List.pairwise_iff_getElem.1 (chl_rise b f p) i j hi hj hij
  have m1 := mem_chTo.1 (List.getElem_mem hi)
  have m2 := mem_chTo.1 (List.getElem_mem hj)
  exact front_mono h hlt m2.1 m1.2 m2.2 hf
end Go.Proofs.YtondenmkhfignaaDoor.Code

/- plain: the children of an item, and where a new one stands, of the program. -/
set_option linter.unusedSimpArgs false
set_option linter.unusedVariables false
namespace Go.Proofs.YtondenmkhfignaaDoor.Code
open Go.Proofs.YtondenmkhfignaaDoor.Ev

def nI (l : List Nat) : List Int := l.map fun (k : Nat) => (k : Int)
theorem nI_at {l : List Nat} {i k : Nat} (h : l[i]? = some k) : (nI l)[i]? = some (k : Int) := by simp [nI, h]
theorem nI_app (a b : List Nat) : nI (a ++ b) = nI a ++ nI b := by simp [nI]
theorem chTo_len (b : Base) (f : List Item) (p : Int) (n : Nat) : (chTo b f p n).length ≤ n := by
  unfold chTo
  have := List.length_filter_le (fun k => decide (par b.types f k = p)) (List.range n)
  simpa using this
theorem out_num {K X : Heap} {rv : AV} {l : List Int} (hO : Out K.length 1 3 X rv (l.map rI)) (hl : l.length ≤ 1000) (r : Int) : ∃ rv1 X1, appK 3 1 8 false (K ++ (X ++ [⟨0, true, 3, 1, [[.int .i64 r]]⟩])) (some rv) (some (.ref (K.length + X.length) 0 1 0 1)) = some (rv1, K ++ X1) ∧ rv1.isTup = false ∧ Out K.length 1 3 X1 rv1 ((l ++ [r]).map rI) := by
  obtain ⟨rv1, X1, a1, t1, O1⟩ := (hO.more [⟨0, true, 3, 1, [[.int .i64 r]]⟩]).app K rfl 8 (.ref (K.length + X.length) 0 1 0 1) [rI r] (by simp [srcRows, rowsOf, curBlk, ← List.append_assoc, rI]) (by simp [rI]) (by simp [reach]; omega)
  exact ⟨rv1, X1, a1, t1, by simpa using O1⟩
theorem f40 (b : Base) (f : List Item) (hr : Right b f) (p : Int) (hp : -1 ≤ p) (hpl : p < (f.length : Int)) (H : Heap) : cal (evC cprog) true 40 [eBase b, eItems f, .int .i64 p] H = some (eIs (nI (chl b f p)), H) := by
  rw [cal_of at40]
  have hfl := hr.len
  have hlen := (sItems [] f).len
  simp only [List.length_map] at hlen
  obtain ⟨K, hK⟩ : ∃ K : Heap, K = H ++ [bBase b] := ⟨_, rfl⟩
  have kt : ∀ Z, (K ++ Z).take H.length = H := fun Z => by rw [hK]; simp
  have kl : K.length = H.length + 1 := by rw [hK]; simp
  have kb : ∀ Z, (K ++ Z)[H.length]? = some (bBase b) := fun Z => by rw [hK]; simp
  obtain ⟨s, hs⟩ : ∃ s : Nat, (s : Int) = p + 1 := ⟨(p + 1).toNat, by omega⟩
  obtain ⟨k1, k2, k3, k4⟩ := kid_first hr hp hpl hs
  have L := fun (st : St) (hE : keepEnv st.1 [1, 3, 8, 9, 10] = [(1, eItems f), (3, .ptr H.length 0 4 0 0), (8, .int .i64 ((kidEnd b f p : Nat) : Int)), (9, .nils), (10, .int .i64 (s : Int))]) (hH : st.2 = K) (z : Option (CX × St)) (hz : itLim (evCode (evC cprog) itLim c40_l0) st = z) =>
    loop_rule (σ := Nat × Heap × AV) (m := [1, 3, 8, 9, 10]) (env := fun x => [(1, eItems f), (3, .ptr H.length 0 4 0 0), (8, .int .i64 ((kidEnd b f p : Nat) : Int)), (9, x.2.2), (10, .int .i64 (x.1 : Int))]) (hp := fun x => K ++ x.2.1)
    (P := fun _ r => ∃ T X rv, r = (.exit 0, T, K ++ X) ∧ keepEnv T [9] = [(9, rv)] ∧ Out K.length 1 3 X rv ((nI (chl b f p)).map rI))
    (mu := fun x => kidEnd b f p - x.1) (I := fun x => x.1 ≤ kidEnd b f p ∧ (x.1 < kidEnd b f p → par b.types f x.1 = p) ∧ Out K.length 1 3 x.2.1 x.2.2 ((nI (chTo b f p x.1)).map rI)) (evCode (evC cprog) itLim c40_l0) (by
      intro ⟨k, X, rv⟩ ⟨hk, hkp, hO⟩ E hE
      simp only at hk hkp hO hE ⊢
      by_cases hlt : k < kidEnd b f p
      · have hkl : k < f.length := by omega
        obtain ⟨s1, s2, s3, s4⟩ := kid_step hr hp hpl hlt (hkp hlt)
        have hii : (k : Int) < ((kidEnd b f p : Nat) : Int) := by omega
        have h63 := fun H => f32 b f hr k hkl H
        have hcl := chTo_len b f p k
        obtain ⟨rv1, X1, a1, t1, O1⟩ := out_num hO (by simp [nI]; omega) (k : Int)
        rw [show nI (chTo b f p k) ++ [(k : Int)] = nI (chTo b f p (endOf b.types f k)) by rw [s4, nI_app]; rfl] at O1
        simp only [bBase] at kb
        simp only [eBase] at h63
        generalize kidEnd b f p = e at *
        simp only [c40_l0, hE, hii, kb, a1, t1, h63, evX, Int.reduceEq, Int.reduceLT, Int.reduceLE, Nat.reduceMul, Nat.reduceMod, evW, fn_eq, evR, Nat.reduceAdd, Nat.reduceLT, Nat.reduceLeDiff, reduceIte, Nat.reduceEqDiff, reduceCtorEq, argEnv, eq_self, if_true, if_false]
        repeat' ((first | rw [guardK_cases] | rw [condK_bool] | rw [guardD_cases]); split <;> simp only [c40_l0, hE, hii, kb, a1, t1, h63, evX, Int.reduceEq, Int.reduceLT, Int.reduceLE, Nat.reduceMul, Nat.reduceMod, evW, evR, Nat.reduceAdd, Nat.reduceLT, Nat.reduceLeDiff, reduceIte, Nat.reduceEqDiff, reduceCtorEq, argEnv, eq_self, if_true, if_false, *])
        exact q_next (endOf b.types f k, X1, rv1) (by rfl) rfl ⟨s2, s3, O1⟩ (by simp only; omega) fun r h => h
      · have hii : ¬ (k : Int) < ((kidEnd b f p : Nat) : Int) := by omega
        have hke : k = kidEnd b f p := by omega
        rw [hke, ← kid_last hr hp hpl] at hO
        simp only [c40_l0, hE, hii, evX, Int.reduceEq, Int.reduceLT, Int.reduceLE, Nat.reduceMul, Nat.reduceMod, evW, fn_eq, evR, Nat.reduceAdd, Nat.reduceLT, Nat.reduceLeDiff, reduceIte, Nat.reduceEqDiff, reduceCtorEq, argEnv, eq_self, if_true, if_false]
        repeat' ((first | rw [guardK_cases] | rw [condK_bool] | rw [guardD_cases]); split <;> simp only [c40_l0, hE, hii, evX, Int.reduceEq, Int.reduceLT, Int.reduceLE, Nat.reduceMul, Nat.reduceMod, evW, evR, Nat.reduceAdd, Nat.reduceLT, Nat.reduceLeDiff, reduceIte, Nat.reduceEqDiff, reduceCtorEq, argEnv, eq_self, if_true, if_false, *])
        exact q_exit ⟨_, X, rv, rfl, by rfl, hO⟩) (s, [], .nils) st ⟨k2, k3, by rw [k1]; exact .nils ..⟩ hE (by simpa using hH) z hz
  by_cases h0 : (0 : Int) ≤ p
  · obtain ⟨q, rfl⟩ : ∃ q : Nat, p = (q : Int) := ⟨p.toNat, by omega⟩
    have h63 := fun H => f32 b f hr q (by omega) H
    have hke : kidEnd b f (q : Int) = endOf b.types f q := by unfold kidEnd; rw [if_neg (by omega)]; rfl
    rw [hke] at L
    have hw : IntKind.i64.wrap ((q : Int) + 1) = (s : Int) := by rw [wrap_i64 (by omega) (by omega)]; omega
    simp only [bBase] at kb hK
    simp only [eBase] at h63
    simp only [c40, eBase, hlen, h0, hw, h63, evX, Int.reduceEq, Int.reduceLT, Int.reduceLE, Nat.reduceMul, Nat.reduceMod, evW, fn_eq, evR, Nat.reduceAdd, Nat.reduceLT, Nat.reduceLeDiff, reduceIte, Nat.reduceEqDiff, reduceCtorEq, argEnv, eq_self, if_true, if_false]
    repeat' ((first | rw [guardK_cases] | rw [condK_bool] | rw [guardD_cases]); split <;> simp only [c40, eBase, hlen, h0, hw, h63, evX, Int.reduceEq, Int.reduceLT, Int.reduceLE, Nat.reduceMul, Nat.reduceMod, evW, evR, Nat.reduceAdd, Nat.reduceLT, Nat.reduceLeDiff, reduceIte, Nat.reduceEqDiff, reduceCtorEq, argEnv, eq_self, if_true, if_false, *])
    generalize hz : itLim _ _ = z
    obtain ⟨_, rfl, T, X, rv, rfl, hT, hO⟩ := L _ (by rfl) (by rw [hK]) z hz
    clear hz L
    obtain ⟨ids, g1, g2, g3⟩ := fz_out' hO K rfl (plain_ints _)
    have hsc := out_tup hO
    have ht := kt X
    generalize K ++ X = Z at *
    simp only [hT, hsc, evX, Int.reduceEq, Int.reduceLT, Int.reduceLE, Nat.reduceMul, Nat.reduceMod, evW, fn_eq, evR, Nat.reduceAdd, Nat.reduceLT, Nat.reduceLeDiff, reduceIte, Nat.reduceEqDiff, reduceCtorEq, argEnv, eq_self, if_true, if_false]
    repeat' ((first | rw [guardK_cases] | rw [condK_bool] | rw [guardD_cases]); split <;> simp only [hT, hsc, evX, Int.reduceEq, Int.reduceLT, Int.reduceLE, Nat.reduceMul, Nat.reduceMod, evW, evR, Nat.reduceAdd, Nat.reduceLT, Nat.reduceLeDiff, reduceIte, Nat.reduceEqDiff, reduceCtorEq, argEnv, eq_self, if_true, if_false, *])
    exact frz_one g1 g3 ht (fun k hk => by have := g2 k hk; omega)
  · have hke : kidEnd b f p = f.length := by unfold kidEnd; rw [if_pos (by omega)]
    have hs0 : s = 0 := by omega
    subst hs0
    rw [hke] at L
    simp only [bBase] at kb hK
    simp only [c40, eBase, hlen, h0, evX, Int.reduceEq, Int.reduceLT, Int.reduceLE, Nat.reduceMul, Nat.reduceMod, evW, fn_eq, evR, Nat.reduceAdd, Nat.reduceLT, Nat.reduceLeDiff, reduceIte, Nat.reduceEqDiff, reduceCtorEq, argEnv, eq_self, if_true, if_false]
    repeat' ((first | rw [guardK_cases] | rw [condK_bool] | rw [guardD_cases]); split <;> simp only [c40, eBase, hlen, h0, evX, Int.reduceEq, Int.reduceLT, Int.reduceLE, Nat.reduceMul, Nat.reduceMod, evW, evR, Nat.reduceAdd, Nat.reduceLT, Nat.reduceLeDiff, reduceIte, Nat.reduceEqDiff, reduceCtorEq, argEnv, eq_self, if_true, if_false, *])
    generalize hz : itLim _ _ = z
    obtain ⟨_, rfl, T, X, rv, rfl, hT, hO⟩ := L _ (by rfl) (by rw [hK]) z hz
    clear hz L
    obtain ⟨ids, g1, g2, g3⟩ := fz_out' hO K rfl (plain_ints _)
    have hsc := out_tup hO
    have ht := kt X
    generalize K ++ X = Z at *
    simp only [hT, hsc, evX, Int.reduceEq, Int.reduceLT, Int.reduceLE, Nat.reduceMul, Nat.reduceMod, evW, fn_eq, evR, Nat.reduceAdd, Nat.reduceLT, Nat.reduceLeDiff, reduceIte, Nat.reduceEqDiff, reduceCtorEq, argEnv, eq_self, if_true, if_false]
    repeat' ((first | rw [guardK_cases] | rw [condK_bool] | rw [guardD_cases]); split <;> simp only [hT, hsc, evX, Int.reduceEq, Int.reduceLT, Int.reduceLE, Nat.reduceMul, Nat.reduceMod, evW, evR, Nat.reduceAdd, Nat.reduceLT, Nat.reduceLeDiff, reduceIte, Nat.reduceEqDiff, reduceCtorEq, argEnv, eq_self, if_true, if_false, *])
    exact frz_one g1 g3 ht (fun k hk => by have := g2 k hk; omega)
end Go.Proofs.YtondenmkhfignaaDoor.Code

/- plain: where a new item stands, of the program: the walk. -/
set_option linter.unusedSimpArgs false
set_option linter.unusedVariables false
namespace Go.Proofs.YtondenmkhfignaaDoor.Code
open Go.Proofs.YtondenmkhfignaaDoor.Ev

def argOk (b : Base) (f : List Item) (p t : Int) (d : ByteArray) : Bool := decide (-1 ≤ p) && decide (p < (f.length : Int)) && fits b.types ⟨t, d⟩ && (if p < 0 then decide (t = 0) else decide (tpar b.types t = typ f p))
def isTwin (b : Base) (f : List Item) (t : Int) (s : ByteArray) (k : Nat) : Bool := decide (typ f (k : Int) = t) && ((tyOf b.types t).unique && decide (kKey b f t k = s))
def twice (b : Base) (f : List Item) (p t : Int) (s : ByteArray) : Bool := (chl b f p).any (isTwin b f t s)
noncomputable def placeE (b : Base) (f : List Item) (p t : Int) (d : ByteArray) : Int :=
  if errF b f [] = 0 then (if argOk b f p t d = true then (if twice b f p t (keyOf (tyOf b.types t) d) = true then 90 else 0) else 2) else errF b f []
noncomputable def placeN (b : Base) (f : List Item) (p t : Int) (d : ByteArray) : Nat := (chl b f p).foldl (atD b f t (keyOf (tyOf b.types t) d)) (p + 1).toNat
noncomputable def placeR (b : Base) (f : List Item) (p t : Int) (d : ByteArray) : Int := if placeE b f p t d = 0 then (placeN b f p t d : Int) else 0
def stP (b : Base) (f : List Item) (p t : Int) (s : ByteArray) (i : Nat) : Nat × Bool := ((chl b f p).take i).foldl (atP b f t s) ((p + 1).toNat, false)
theorem stP_step (b : Base) (f : List Item) (p t : Int) (s : ByteArray) {i k : Nat} (hk : (chl b f p)[i]? = some k) : stP b f p t s (i + 1) = atP b f t s (stP b f p t s i) k := by
  unfold stP
  rw [List.take_add_one, hk, Option.toList_some, List.foldl_append]; rfl
set_option maxHeartbeats 4000000 in
theorem l25 (b : Base) (f : List Item) (hr : Right b f) (p : Int) (ti : Nat) (ty : Ty) (hty : b.types[ti]? = some ty) (hok : tyOk ty = true) (s : ByteArray) (H : Heap) (n m : Nat) (hn : ∀ Z, (H ++ Z)[n]? = some (bBase b)) (hm : ∀ Z, (H ++ Z)[m]? = some (bTy ty)) (st : St)
    (hE : keepEnv st.1 [1, 3, 5, 13, 14, 15, 16, 83, 84, 85] = [(1, eItems f), (3, .int .i64 (ti : Int)), (5, .ptr n 0 4 0 0), (13, .ptr m 0 8 0 0), (14, .int .i64 (((p + 1).toNat : Nat) : Int)), (15, .str s), (16, .bool false), (83, eIs (nI (chl b f p))), (84, .int .i64 ((chl b f p).length : Int)), (85, .int .i64 0)]) (hH : st.2 = H)
    (z : Option (CX × St)) (hz : itLim (evCode (evC cprog) itLim c25_l0) st = z) :
    (twice b f p (ti : Int) s = false ∧ ∃ T G, z = some (.exit 1, T, H ++ G) ∧ keepEnv T [14] = [(14, .int .i64 ((((chl b f p).foldl (atP b f (ti : Int) s) ((p + 1).toNat, false)).1 : Nat) : Int))]) ∨
    (twice b f p (ti : Int) s = true ∧ ∃ T G, z = some (.ret, T, H ++ G) ∧ get T 10 = some (.int .i64 0) ∧ get T 11 = some (.int .i64 90)) := by
  have hfl := hr.len
  have htyo : tyOf b.types (ti : Int) = ty := tyOf_at hty
  have L := scan_rule (chl b f p) (fun _ k => !isTwin b f (ti : Int) s k) [1, 3, 5, 13, 14, 15, 16, 83, 84, 85] (fun i => [(1, eItems f), (3, .int .i64 (ti : Int)), (5, .ptr n 0 4 0 0), (13, .ptr m 0 8 0 0), (14, .int .i64 ((stP b f p (ti : Int) s i).1 : Int)), (15, .str s), (16, .bool (stP b f p (ti : Int) s i).2), (83, eIs (nI (chl b f p))), (84, .int .i64 ((chl b f p).length : Int)), (85, .int .i64 (i : Int))]) H [] (evCode (evC cprog) itLim c25_l0)
    (fun c T => c = .exit 1 ∧ keepEnv T [14] = [(14, .int .i64 ((stP b f p (ti : Int) s (chl b f p).length).1 : Int))]) (fun i k c T => c = .ret ∧ get T 10 = some (.int .i64 0) ∧ get T 11 = some (.int .i64 90))
    (fun i k hk E G hE => by
      have hlt : i < (chl b f p).length := (List.getElem?_eq_some_iff.1 hk).1
      have hii : (i : Int) < ((chl b f p).length : Int) := by omega
      have hcl := chTo_len b f p f.length
      have hcl' : (chl b f p).length ≤ f.length := hcl
      have hkm := mem_chTo.1 (List.mem_of_getElem? hk)
      obtain ⟨x, kk, t0, hx, hxt, _, ht0, _, hmin, _⟩ := hr.item hkm.1
      have ha := aI (nI_at hk)
      have hax := aItem hx
      have hld := fun (H : Heap) (a : AV) => (rfl : loadK false 1 H (some (.fptr [a])) = some a)
      have hws : IntKind.i64.wrap ((i : Int) + 1) = ((i + 1 : Nat) : Int) := by rw [wrap_i64 (by omega) (by omega)]; omega
      have h63 := fun H => f32 b f hr k hkm.1 H
      have hst := stP_step b f p (ti : Int) s hk
      have hfr : front b f (ti : Int) s k = (decide (x.type < (ti : Int)) || (decide (x.type = (ti : Int)) && (bLt (keyOf ty x.data) s || (decide (keyOf ty x.data = s) && ty.last)))) := by
        unfold front kKey
        rw [typ_at hx, dat_at hx, htyo]
      have htw : isTwin b f (ti : Int) s k = (decide (x.type = (ti : Int)) && (ty.unique && decide (keyOf ty x.data = s))) := by
        unfold isTwin kKey
        rw [typ_at hx, dat_at hx, htyo]
      simp only [eBase] at h63
      simp only [bBase] at hn
      simp only [bTy] at hm
      unfold atP at hst
      rw [hfr] at hst
      rw [htw]
      generalize hS : stP b f p (ti : Int) s i = S at *
      generalize hS1 : stP b f p (ti : Int) s (i + 1) = S1 at *
      obtain ⟨at0, bh⟩ := S
      simp only at hst hE
      generalize (chl b f p).length = cl at *
      generalize nI (chl b f p) = ks at *
      rcases Int.lt_trichotomy x.type (ti : Int) with c | c | c
      · have c1 : (x.type < (ti : Int)) = True := eq_true c
        have c2 : (x.type = (ti : Int)) = False := eq_false (by omega)
        simp only [c1, c2, decide_true, decide_false, Bool.true_or, Bool.not_true, Bool.or_false] at hst
        simp only [c2, decide_false, Bool.false_and]
        clear c
        cases bh with
        | true =>
          simp only [if_true] at hst
          simp only [c25_l0, hE, hii, ha, rI, hld, hax, rItem, c1, c2, hws, evX, Int.reduceEq, Int.reduceLT, Int.reduceLE, Nat.reduceMul, Nat.reduceMod, evW, fn_eq, evR, Nat.reduceAdd, Nat.reduceLT, Nat.reduceLeDiff, reduceIte, Nat.reduceEqDiff, reduceCtorEq, argEnv, eq_self, if_true, if_false]
          repeat' ((first | rw [guardK_cases] | rw [condK_bool] | rw [guardD_cases]); split <;> simp only [c25_l0, hE, hii, ha, rI, hld, hax, rItem, c1, c2, hws, evX, Int.reduceEq, Int.reduceLT, Int.reduceLE, Nat.reduceMul, Nat.reduceMod, evW, evR, Nat.reduceAdd, Nat.reduceLT, Nat.reduceLeDiff, reduceIte, Nat.reduceEqDiff, reduceCtorEq, argEnv, eq_self, if_true, if_false, *])
          exact Sc.next rfl (by simp only [hst]; rfl)
        | false =>
          simp only [Bool.false_eq_true, if_false] at hst
          simp only [c25_l0, hE, hii, ha, rI, hld, hax, rItem, c1, c2, hn, h63, hws, evX, Int.reduceEq, Int.reduceLT, Int.reduceLE, Nat.reduceMul, Nat.reduceMod, evW, fn_eq, evR, Nat.reduceAdd, Nat.reduceLT, Nat.reduceLeDiff, reduceIte, Nat.reduceEqDiff, reduceCtorEq, argEnv, eq_self, if_true, if_false]
          repeat' ((first | rw [guardK_cases] | rw [condK_bool] | rw [guardD_cases]); split <;> simp only [c25_l0, hE, hii, ha, rI, hld, hax, rItem, c1, c2, hn, h63, hws, evX, Int.reduceEq, Int.reduceLT, Int.reduceLE, Nat.reduceMul, Nat.reduceMod, evW, evR, Nat.reduceAdd, Nat.reduceLT, Nat.reduceLeDiff, reduceIte, Nat.reduceEqDiff, reduceCtorEq, argEnv, eq_self, if_true, if_false, *])
          exact Sc.next rfl (by simp only [hst]; rfl)
      · have c2 : (x.type = (ti : Int)) = True := eq_true c
        have c1 : (x.type < (ti : Int)) = False := eq_false (by omega)
        have hty0 : t0 = ty := by
          have e : kk = ti := by omega
          rw [e, hty] at ht0
          cases ht0; rfl
        have h105 := fun H => f39 ty hok x.data (by rw [← hty0]; exact hmin) H
        simp only [c1, c2, decide_true, decide_false, Bool.false_or, Bool.true_and] at hst
        simp only [c2, decide_true, Bool.true_and]
        clear c hxt
        generalize keyOf ty x.data = ky at *
        simp only [rTy] at h105 hm
        obtain ⟨nm, pa, mi, si, fs, ke, u, la⟩ := ty
        simp only at h105 hm hst ⊢
        by_cases ks' : ky = s
        · have k1 : (ky = s) = True := eq_true ks'
          have k2 : bLt ky s = false := by rw [ks']; exact bLt_irrefl s
          simp only [k1, k2, decide_true, Bool.false_or, Bool.true_and, Bool.and_true] at hst ⊢
          clear ks'
          cases u with
          | true =>
            simp only [c25_l0, hE, hii, ha, rI, hld, hax, rItem, c1, c2, hm, h105, k1, evX, Int.reduceEq, Int.reduceLT, Int.reduceLE, Nat.reduceMul, Nat.reduceMod, evW, fn_eq, evR, Nat.reduceAdd, Nat.reduceLT, Nat.reduceLeDiff, reduceIte, Nat.reduceEqDiff, reduceCtorEq, argEnv, eq_self, if_true, if_false]
            repeat' ((first | rw [guardK_cases] | rw [condK_bool] | rw [guardD_cases]); split <;> simp only [c25_l0, hE, hii, ha, rI, hld, hax, rItem, c1, c2, hm, h105, k1, evX, Int.reduceEq, Int.reduceLT, Int.reduceLE, Nat.reduceMul, Nat.reduceMod, evW, evR, Nat.reduceAdd, Nat.reduceLT, Nat.reduceLeDiff, reduceIte, Nat.reduceEqDiff, reduceCtorEq, argEnv, eq_self, if_true, if_false, *])
            exact Sc.ret rfl ⟨rfl, by rfl, by rfl⟩
          | false =>
            cases la <;> cases bh <;> simp only [Bool.or_false, Bool.false_or, Bool.or_true, Bool.true_or, Bool.not_true, Bool.not_false, Bool.false_eq_true, if_true, if_false] at hst
            all_goals
              simp only [c25_l0, hE, hii, ha, rI, hld, hax, rItem, c1, c2, hm, hn, h63, h105, k1, k2, hws, evX, Int.reduceEq, Int.reduceLT, Int.reduceLE, Nat.reduceMul, Nat.reduceMod, evW, fn_eq, evR, Nat.reduceAdd, Nat.reduceLT, Nat.reduceLeDiff, reduceIte, Nat.reduceEqDiff, reduceCtorEq, argEnv, eq_self, if_true, if_false]
              repeat' ((first | rw [guardK_cases] | rw [condK_bool] | rw [guardD_cases]); split <;> simp only [c25_l0, hE, hii, ha, rI, hld, hax, rItem, c1, c2, hm, hn, h63, h105, k1, k2, hws, evX, Int.reduceEq, Int.reduceLT, Int.reduceLE, Nat.reduceMul, Nat.reduceMod, evW, evR, Nat.reduceAdd, Nat.reduceLT, Nat.reduceLeDiff, reduceIte, Nat.reduceEqDiff, reduceCtorEq, argEnv, eq_self, if_true, if_false, *])
              exact Sc.next rfl (by simp only [hst]; rfl)
        · have k1 : (ky = s) = False := eq_false ks'
          simp only [k1, decide_false, Bool.false_and, Bool.or_false, Bool.and_false] at hst ⊢
          clear ks'
          cases k2 : bLt ky s <;> cases u <;> cases bh <;> simp only [k2, Bool.or_false, Bool.false_or, Bool.or_true, Bool.true_or, Bool.not_true, Bool.not_false, Bool.false_eq_true, if_true, if_false] at hst
          all_goals
            simp only [c25_l0, hE, hii, ha, rI, hld, hax, rItem, c1, c2, hm, hn, h63, h105, k1, k2, hws, evX, Int.reduceEq, Int.reduceLT, Int.reduceLE, Nat.reduceMul, Nat.reduceMod, evW, fn_eq, evR, Nat.reduceAdd, Nat.reduceLT, Nat.reduceLeDiff, reduceIte, Nat.reduceEqDiff, reduceCtorEq, argEnv, eq_self, if_true, if_false]
            repeat' ((first | rw [guardK_cases] | rw [condK_bool] | rw [guardD_cases]); split <;> simp only [c25_l0, hE, hii, ha, rI, hld, hax, rItem, c1, c2, hm, hn, h63, h105, k1, k2, hws, evX, Int.reduceEq, Int.reduceLT, Int.reduceLE, Nat.reduceMul, Nat.reduceMod, evW, evR, Nat.reduceAdd, Nat.reduceLT, Nat.reduceLeDiff, reduceIte, Nat.reduceEqDiff, reduceCtorEq, argEnv, eq_self, if_true, if_false, *])
            exact Sc.next rfl (by simp only [hst]; rfl)
      · have c2 : (x.type = (ti : Int)) = False := eq_false (by omega)
        have c1 : (x.type < (ti : Int)) = False := eq_false (by omega)
        simp only [c1, c2, decide_false, Bool.false_or, Bool.false_and, Bool.not_false, Bool.or_true, if_true] at hst
        simp only [c2, decide_false, Bool.false_and]
        clear c
        cases bh with
        | true =>
          simp only [c25_l0, hE, hii, ha, rI, hld, hax, rItem, c1, c2, hws, evX, Int.reduceEq, Int.reduceLT, Int.reduceLE, Nat.reduceMul, Nat.reduceMod, evW, fn_eq, evR, Nat.reduceAdd, Nat.reduceLT, Nat.reduceLeDiff, reduceIte, Nat.reduceEqDiff, reduceCtorEq, argEnv, eq_self, if_true, if_false]
          repeat' ((first | rw [guardK_cases] | rw [condK_bool] | rw [guardD_cases]); split <;> simp only [c25_l0, hE, hii, ha, rI, hld, hax, rItem, c1, c2, hws, evX, Int.reduceEq, Int.reduceLT, Int.reduceLE, Nat.reduceMul, Nat.reduceMod, evW, evR, Nat.reduceAdd, Nat.reduceLT, Nat.reduceLeDiff, reduceIte, Nat.reduceEqDiff, reduceCtorEq, argEnv, eq_self, if_true, if_false, *])
          exact Sc.next rfl (by simp only [hst]; rfl)
        | false =>
          simp only [c25_l0, hE, hii, ha, rI, hld, hax, rItem, c1, c2, hws, evX, Int.reduceEq, Int.reduceLT, Int.reduceLE, Nat.reduceMul, Nat.reduceMod, evW, fn_eq, evR, Nat.reduceAdd, Nat.reduceLT, Nat.reduceLeDiff, reduceIte, Nat.reduceEqDiff, reduceCtorEq, argEnv, eq_self, if_true, if_false]
          repeat' ((first | rw [guardK_cases] | rw [condK_bool] | rw [guardD_cases]); split <;> simp only [c25_l0, hE, hii, ha, rI, hld, hax, rItem, c1, c2, hws, evX, Int.reduceEq, Int.reduceLT, Int.reduceLE, Nat.reduceMul, Nat.reduceMod, evW, evR, Nat.reduceAdd, Nat.reduceLT, Nat.reduceLeDiff, reduceIte, Nat.reduceEqDiff, reduceCtorEq, argEnv, eq_self, if_true, if_false, *])
          exact Sc.next rfl (by simp only [hst]; rfl))
    (fun E G hE => by
      generalize hks : nI (chl b f p) = ks at *
      simp only [c25_l0, hE, Int.lt_irrefl, evX, Int.reduceEq, Int.reduceLT, Int.reduceLE, Nat.reduceMul, Nat.reduceMod, evW, fn_eq, evR, Nat.reduceAdd, Nat.reduceLT, Nat.reduceLeDiff, reduceIte, Nat.reduceEqDiff, reduceCtorEq, argEnv, eq_self, if_true, if_false]
      repeat' ((first | rw [guardK_cases] | rw [condK_bool] | rw [guardD_cases]); split <;> simp only [c25_l0, hE, Int.lt_irrefl, evX, Int.reduceEq, Int.reduceLT, Int.reduceLE, Nat.reduceMul, Nat.reduceMod, evW, evR, Nat.reduceAdd, Nat.reduceLT, Nat.reduceLeDiff, reduceIte, Nat.reduceEqDiff, reduceCtorEq, argEnv, eq_self, if_true, if_false, *])
      exact .exit (K := []) ⟨rfl, by rfl⟩) st [] (by rw [hE]; rfl) (by simpa using hH) z hz
  rcases L with ⟨hall, c, T, G, rfl, _, rfl, hT⟩ | ⟨i, x, hx, hno, hb, c, T, G, rfl, _, rfl, hT1, hT2⟩
  · refine .inl ⟨?_, T, G, by simp, ?_⟩
    · unfold twice
      rw [List.any_eq_false]
      intro k hk
      obtain ⟨i, hi⟩ := List.getElem?_of_mem hk
      have := hall i k hi
      simpa using this
    · unfold stP at hT
      rw [List.take_length] at hT
      exact hT
  · refine .inr ⟨?_, T, G, by simp, hT1, hT2⟩
    · unfold twice
      rw [List.any_eq_true]
      exact ⟨x, List.mem_of_getElem? hx, by simpa using hno⟩
end Go.Proofs.YtondenmkhfignaaDoor.Code

/- plain: where a new item stands, of the program: place. -/
set_option linter.unusedSimpArgs false
set_option linter.unusedVariables false
namespace Go.Proofs.YtondenmkhfignaaDoor.Code
open Go.Proofs.YtondenmkhfignaaDoor.Ev

theorem argOk_at {b : Base} {f : List Item} {p t : Int} {d : ByteArray} (h : argOk b f p t d = true) : -1 ≤ p ∧ p < (f.length : Int) ∧ fits b.types ⟨t, d⟩ = true ∧ ((p < 0 ∧ t = 0) ∨ (0 ≤ p ∧ tpar b.types t = typ f p)) := by
  simp only [argOk, Bool.and_eq_true, decide_eq_true_eq] at h
  obtain ⟨⟨⟨h1, h2⟩, h3⟩, h4⟩ := h
  refine ⟨h1, h2, h3, ?_⟩
  split at h4
  · rename_i hp; exact .inl ⟨hp, of_decide_eq_true h4⟩
  · rename_i hp; exact .inr ⟨by omega, of_decide_eq_true h4⟩
set_option maxHeartbeats 4000000 in
theorem f25 (b : Base) (hb : b.Ok) (f : List Item) (hfl : f.length < 9223372036854775807) (p t : Int) (d : ByteArray) (H : Heap) :
    cal (evC cprog) false 25 [eBase b, eItems f, .int .i64 p, .int .i64 t, .str d] H = some (.tup [.int .i64 (placeR b f p t d), .int .i64 (placeE b f p t d)], H) := by
  rw [cal_of at25]
  have h61 := fun K => f30 b hb f .nils rfl [] (by simp) K (nil_slat K)
  simp only [eBase] at h61
  have hlen := (sItems [] f).len
  simp only [List.length_map] at hlen
  by_cases he : errF b f [] = 0
  · have hr := (errF_zero hb he).1
    have hfl2 := hr.len
    rw [he] at h61
    have bad : argOk b f p t d = false → placeE b f p t d = 2 ∧ placeR b f p t d = 0 := fun h => by
      have e : placeE b f p t d = 2 := by unfold placeE; rw [if_pos he, if_neg (by rw [h]; simp)]
      exact ⟨e, by unfold placeR; rw [e]; rfl⟩
    by_cases c1 : p < -1
    · obtain ⟨e1, e2⟩ := bad (by simp [argOk]; omega)
      rw [e1, e2]
      simp only [c25, eBase, h61, hlen, c1, evX, Int.reduceEq, Int.reduceLT, Int.reduceLE, Nat.reduceMul, Nat.reduceMod, evW, fn_eq, evR, Nat.reduceAdd, Nat.reduceLT, Nat.reduceLeDiff, reduceIte, Nat.reduceEqDiff, reduceCtorEq, argEnv, eq_self, if_true, if_false]
      repeat' ((first | rw [guardK_cases] | rw [condK_bool] | rw [guardD_cases]); split <;> simp only [c25, eBase, h61, hlen, c1, evX, Int.reduceEq, Int.reduceLT, Int.reduceLE, Nat.reduceMul, Nat.reduceMod, evW, evR, Nat.reduceAdd, Nat.reduceLT, Nat.reduceLeDiff, reduceIte, Nat.reduceEqDiff, reduceCtorEq, argEnv, eq_self, if_true, if_false, *])
    by_cases c2 : (f.length : Int) ≤ p
    · obtain ⟨e1, e2⟩ := bad (by simp [argOk]; omega)
      rw [e1, e2]
      simp only [c25, eBase, h61, hlen, c1, c2, evX, Int.reduceEq, Int.reduceLT, Int.reduceLE, Nat.reduceMul, Nat.reduceMod, evW, fn_eq, evR, Nat.reduceAdd, Nat.reduceLT, Nat.reduceLeDiff, reduceIte, Nat.reduceEqDiff, reduceCtorEq, argEnv, eq_self, if_true, if_false]
      repeat' ((first | rw [guardK_cases] | rw [condK_bool] | rw [guardD_cases]); split <;> simp only [c25, eBase, h61, hlen, c1, c2, evX, Int.reduceEq, Int.reduceLT, Int.reduceLE, Nat.reduceMul, Nat.reduceMod, evW, evR, Nat.reduceAdd, Nat.reduceLT, Nat.reduceLeDiff, reduceIte, Nat.reduceEqDiff, reduceCtorEq, argEnv, eq_self, if_true, if_false, *])
    have h104 := fun K => f38 b ⟨t, d⟩ K
    simp only [eBase, rItem] at h104
    cases hfit : fits b.types ⟨t, d⟩ with
    | false =>
      obtain ⟨e1, e2⟩ := bad (by simp [argOk, hfit])
      rw [e1, e2]
      rw [hfit] at h104
      simp only [c25, eBase, h61, hlen, c1, c2, h104, evX, Int.reduceEq, Int.reduceLT, Int.reduceLE, Nat.reduceMul, Nat.reduceMod, evW, fn_eq, evR, Nat.reduceAdd, Nat.reduceLT, Nat.reduceLeDiff, reduceIte, Nat.reduceEqDiff, reduceCtorEq, argEnv, eq_self, if_true, if_false]
      repeat' ((first | rw [guardK_cases] | rw [condK_bool] | rw [guardD_cases]); split <;> simp only [c25, eBase, h61, hlen, c1, c2, h104, evX, Int.reduceEq, Int.reduceLT, Int.reduceLE, Nat.reduceMul, Nat.reduceMod, evW, evR, Nat.reduceAdd, Nat.reduceLT, Nat.reduceLeDiff, reduceIte, Nat.reduceEqDiff, reduceCtorEq, argEnv, eq_self, if_true, if_false, *])
    | true =>
      rw [hfit] at h104
      obtain ⟨ti, ty, htt, htl, hty, hmin, hmax⟩ := fits_some hfit
      simp only at htt hmin hmax
      subst htt
      have hat := aTy hty
      have htok : tyOk ty = true := by
        have := tell_true.1 hr.tys ti ty hty
        simp only [tyAt, Bool.and_eq_true] at this; exact this.1.1.1
      have hpar : tpar b.types (ti : Int) = ty.parent := tpar_at hty

      have h105 := fun K => f39 ty htok d (by omega) K
      have h106 := fun (hp : -1 ≤ p) (hpl : p < (f.length : Int)) K => f40 b f hr p hp hpl K
      have hks := (sIs [] (nI (chl b f p))).len
      rw [List.length_map, show (nI (chl b f p)).length = (chl b f p).length by simp [nI]] at hks
      have hlp := fun K n m hn hm => l25 b f hr p ti ty hty htok (keyOf ty d) K n m hn hm
      have hnn : placeN b f p (ti : Int) d = ((chl b f p).foldl (atP b f (ti : Int) (keyOf ty d)) ((p + 1).toNat, false)).1 := by
        unfold placeN
        rw [tyOf_at hty]
        exact (plAt_same b f (ti : Int) (keyOf ty d) (chl b f p) (p + 1).toNat (chl_mono hr p (ti : Int) (keyOf ty d))).symm
      have hwp : IntKind.i64.wrap (p + 1) = (((p + 1).toNat : Nat) : Int) := by rw [wrap_i64 (by omega) (by omega)]; omega
      have good : argOk b f p (ti : Int) d = true → placeE b f p (ti : Int) d = if twice b f p (ti : Int) (keyOf ty d) = true then 90 else 0 := fun h => by
        unfold placeE; rw [if_pos he, if_pos h, tyOf_at hty]
      have hK := hlp (H ++ [bBase b, bTy ty]) H.length (H.length + 1) (fun Z => by simp) (fun Z => by simp)
      clear hlp
      simp only [eBase, rTy] at h105 h106
      by_cases c3 : p < 0
      · have hp1 : p = -1 := by omega
        have c3n : ¬ (0 : Int) ≤ p := by omega
        by_cases c4 : ti = 0
        · have hg : argOk b f p (ti : Int) d = true := by
            simp only [argOk, Bool.and_eq_true, decide_eq_true_eq]
            exact ⟨⟨⟨by omega, by omega⟩, hfit⟩, by rw [if_pos c3]; simp [c4]⟩
          have c4' : ((ti : Int) = 0) = True := eq_true (by omega)
          have h106' := h106 (by omega) (by omega)
          have e1 := good hg
          clear good bad hp1 c4
          generalize nI (chl b f p) = ks at *
          generalize (chl b f p).length = cl at *
          simp only [bBase, bTy, rTy] at hK
          simp only [c25, eBase, h61, hlen, c1, c2, h104, c3, c3n, c4', hat, rTy, h105, h106', hks, hwp, evX, Int.reduceEq, Int.reduceLT, Int.reduceLE, Nat.reduceMul, Nat.reduceMod, evW, fn_eq, evR, Nat.reduceAdd, Nat.reduceLT, Nat.reduceLeDiff, reduceIte, Nat.reduceEqDiff, reduceCtorEq, argEnv, eq_self, if_true, if_false]
          repeat' ((first | rw [guardK_cases] | rw [condK_bool] | rw [guardD_cases]); split <;> simp only [c25, eBase, h61, hlen, c1, c2, h104, c3, c3n, c4', hat, rTy, h105, h106', hks, hwp, evX, Int.reduceEq, Int.reduceLT, Int.reduceLE, Nat.reduceMul, Nat.reduceMod, evW, evR, Nat.reduceAdd, Nat.reduceLT, Nat.reduceLeDiff, reduceIte, Nat.reduceEqDiff, reduceCtorEq, argEnv, eq_self, if_true, if_false, *])
          generalize hz : itLim _ _ = z
          rcases hK _ (by rfl) (by rfl) z hz with ⟨ht, T, G, rfl, hT⟩ | ⟨ht, T, G, rfl, hT1, hT2⟩
          · rw [ht] at e1
            have e2 : placeR b f p (ti : Int) d = (placeN b f p (ti : Int) d : Int) := by unfold placeR; rw [e1]; rfl
            rw [e1, e2, hnn]
            simp only [hT, evX, Int.reduceEq, Int.reduceLT, Int.reduceLE, Nat.reduceMul, Nat.reduceMod, evW, fn_eq, evR, Nat.reduceAdd, Nat.reduceLT, Nat.reduceLeDiff, reduceIte, Nat.reduceEqDiff, reduceCtorEq, argEnv, eq_self, if_true, if_false]
            repeat' ((first | rw [guardK_cases] | rw [condK_bool] | rw [guardD_cases]); split <;> simp only [hT, evX, Int.reduceEq, Int.reduceLT, Int.reduceLE, Nat.reduceMul, Nat.reduceMod, evW, evR, Nat.reduceAdd, Nat.reduceLT, Nat.reduceLeDiff, reduceIte, Nat.reduceEqDiff, reduceCtorEq, argEnv, eq_self, if_true, if_false, *])
          · rw [ht] at e1
            have e2 : placeR b f p (ti : Int) d = 0 := by unfold placeR; rw [e1]; rfl
            rw [e1, e2]
            simp only [hT1, hT2, evX, Int.reduceEq, Int.reduceLT, Int.reduceLE, Nat.reduceMul, Nat.reduceMod, evW, fn_eq, evR, Nat.reduceAdd, Nat.reduceLT, Nat.reduceLeDiff, reduceIte, Nat.reduceEqDiff, reduceCtorEq, argEnv, eq_self, if_true, if_false]
            repeat' ((first | rw [guardK_cases] | rw [condK_bool] | rw [guardD_cases]); split <;> simp only [hT1, hT2, evX, Int.reduceEq, Int.reduceLT, Int.reduceLE, Nat.reduceMul, Nat.reduceMod, evW, evR, Nat.reduceAdd, Nat.reduceLT, Nat.reduceLeDiff, reduceIte, Nat.reduceEqDiff, reduceCtorEq, argEnv, eq_self, if_true, if_false, *])
        · obtain ⟨e1, e2⟩ := bad (by simp [argOk, c3]; omega)
          have c4' : ((ti : Int) = 0) = False := eq_false (by omega)
          rw [e1, e2]
          simp only [c25, eBase, h61, hlen, c1, c2, h104, c3, c4', evX, Int.reduceEq, Int.reduceLT, Int.reduceLE, Nat.reduceMul, Nat.reduceMod, evW, fn_eq, evR, Nat.reduceAdd, Nat.reduceLT, Nat.reduceLeDiff, reduceIte, Nat.reduceEqDiff, reduceCtorEq, argEnv, eq_self, if_true, if_false]
          repeat' ((first | rw [guardK_cases] | rw [condK_bool] | rw [guardD_cases]); split <;> simp only [c25, eBase, h61, hlen, c1, c2, h104, c3, c4', evX, Int.reduceEq, Int.reduceLT, Int.reduceLE, Nat.reduceMul, Nat.reduceMod, evW, evR, Nat.reduceAdd, Nat.reduceLT, Nat.reduceLeDiff, reduceIte, Nat.reduceEqDiff, reduceCtorEq, argEnv, eq_self, if_true, if_false, *])
      · obtain ⟨q, rfl⟩ : ∃ q : Nat, p = (q : Int) := ⟨p.toNat, by omega⟩
        obtain ⟨y, hy⟩ : ∃ y, f[q]? = some y := ⟨_, List.getElem?_eq_getElem (by omega)⟩
        have haq := aItem hy
        have c3' : (0 : Int) ≤ (q : Int) := by omega
        by_cases c4 : ty.parent = y.type
        · have hg : argOk b f (q : Int) (ti : Int) d = true := by
            simp only [argOk, Bool.and_eq_true, decide_eq_true_eq]
            exact ⟨⟨⟨by omega, by omega⟩, hfit⟩, by rw [if_neg c3, hpar, typ_at hy]; simp [c4]⟩
          have c4' : (ty.parent = y.type) = True := eq_true c4
          have h106' := h106 (by omega) (by omega)
          have e1 := good hg
          clear good bad c4
          generalize nI (chl b f (q : Int)) = ks at *
          generalize (chl b f (q : Int)).length = cl at *
          simp only [bBase, bTy, rTy] at hK
          simp only [c25, eBase, h61, hlen, c1, c2, h104, c3, c3', c4', hat, haq, rItem, rTy, h105, h106', hks, hwp, evX, Int.reduceEq, Int.reduceLT, Int.reduceLE, Nat.reduceMul, Nat.reduceMod, evW, fn_eq, evR, Nat.reduceAdd, Nat.reduceLT, Nat.reduceLeDiff, reduceIte, Nat.reduceEqDiff, reduceCtorEq, argEnv, eq_self, if_true, if_false]
          repeat' ((first | rw [guardK_cases] | rw [condK_bool] | rw [guardD_cases]); split <;> simp only [c25, eBase, h61, hlen, c1, c2, h104, c3, c3', c4', hat, haq, rItem, rTy, h105, h106', hks, hwp, evX, Int.reduceEq, Int.reduceLT, Int.reduceLE, Nat.reduceMul, Nat.reduceMod, evW, evR, Nat.reduceAdd, Nat.reduceLT, Nat.reduceLeDiff, reduceIte, Nat.reduceEqDiff, reduceCtorEq, argEnv, eq_self, if_true, if_false, *])
          generalize hz : itLim _ _ = z
          rcases hK _ (by rfl) (by rfl) z hz with ⟨ht, T, G, rfl, hT⟩ | ⟨ht, T, G, rfl, hT1, hT2⟩
          · rw [ht] at e1
            have e2 : placeR b f (q : Int) (ti : Int) d = (placeN b f (q : Int) (ti : Int) d : Int) := by unfold placeR; rw [e1]; rfl
            rw [e1, e2, hnn]
            simp only [hT, evX, Int.reduceEq, Int.reduceLT, Int.reduceLE, Nat.reduceMul, Nat.reduceMod, evW, fn_eq, evR, Nat.reduceAdd, Nat.reduceLT, Nat.reduceLeDiff, reduceIte, Nat.reduceEqDiff, reduceCtorEq, argEnv, eq_self, if_true, if_false]
            repeat' ((first | rw [guardK_cases] | rw [condK_bool] | rw [guardD_cases]); split <;> simp only [hT, evX, Int.reduceEq, Int.reduceLT, Int.reduceLE, Nat.reduceMul, Nat.reduceMod, evW, evR, Nat.reduceAdd, Nat.reduceLT, Nat.reduceLeDiff, reduceIte, Nat.reduceEqDiff, reduceCtorEq, argEnv, eq_self, if_true, if_false, *])
          · rw [ht] at e1
            have e2 : placeR b f (q : Int) (ti : Int) d = 0 := by unfold placeR; rw [e1]; rfl
            rw [e1, e2]
            simp only [hT1, hT2, evX, Int.reduceEq, Int.reduceLT, Int.reduceLE, Nat.reduceMul, Nat.reduceMod, evW, fn_eq, evR, Nat.reduceAdd, Nat.reduceLT, Nat.reduceLeDiff, reduceIte, Nat.reduceEqDiff, reduceCtorEq, argEnv, eq_self, if_true, if_false]
            repeat' ((first | rw [guardK_cases] | rw [condK_bool] | rw [guardD_cases]); split <;> simp only [hT1, hT2, evX, Int.reduceEq, Int.reduceLT, Int.reduceLE, Nat.reduceMul, Nat.reduceMod, evW, evR, Nat.reduceAdd, Nat.reduceLT, Nat.reduceLeDiff, reduceIte, Nat.reduceEqDiff, reduceCtorEq, argEnv, eq_self, if_true, if_false, *])
        · obtain ⟨e1, e2⟩ := bad (by simp only [argOk]; rw [if_neg c3, hpar, typ_at hy, decide_eq_false c4, Bool.and_false])
          have c4' : (ty.parent = y.type) = False := eq_false c4
          clear c4
          rw [e1, e2]
          simp only [c25, eBase, h61, hlen, c1, c2, h104, c3, c3', c4', hat, haq, rItem, rTy, evX, Int.reduceEq, Int.reduceLT, Int.reduceLE, Nat.reduceMul, Nat.reduceMod, evW, fn_eq, evR, Nat.reduceAdd, Nat.reduceLT, Nat.reduceLeDiff, reduceIte, Nat.reduceEqDiff, reduceCtorEq, argEnv, eq_self, if_true, if_false]
          repeat' ((first | rw [guardK_cases] | rw [condK_bool] | rw [guardD_cases]); split <;> simp only [c25, eBase, h61, hlen, c1, c2, h104, c3, c3', c4', hat, haq, rItem, rTy, evX, Int.reduceEq, Int.reduceLT, Int.reduceLE, Nat.reduceMul, Nat.reduceMod, evW, evR, Nat.reduceAdd, Nat.reduceLT, Nat.reduceLeDiff, reduceIte, Nat.reduceEqDiff, reduceCtorEq, argEnv, eq_self, if_true, if_false, *])
  · have e1 : placeE b f p t d = errF b f [] := if_neg he
    have e2 : placeR b f p t d = 0 := by unfold placeR; rw [e1, if_neg he]
    rw [e1, e2]
    simp only [c25, eBase, h61, he, evX, Int.reduceEq, Int.reduceLT, Int.reduceLE, Nat.reduceMul, Nat.reduceMod, evW, fn_eq, evR, Nat.reduceAdd, Nat.reduceLT, Nat.reduceLeDiff, reduceIte, Nat.reduceEqDiff, reduceCtorEq, argEnv, eq_self, if_true, if_false]
    repeat' ((first | rw [guardK_cases] | rw [condK_bool] | rw [guardD_cases]); split <;> simp only [c25, eBase, h61, he, evX, Int.reduceEq, Int.reduceLT, Int.reduceLE, Nat.reduceMul, Nat.reduceMod, evW, evR, Nat.reduceAdd, Nat.reduceLT, Nat.reduceLeDiff, reduceIte, Nat.reduceEqDiff, reduceCtorEq, argEnv, eq_self, if_true, if_false, *])
end Go.Proofs.YtondenmkhfignaaDoor.Code

/- plain: where a new item stands, of the document. -/
set_option linter.unusedSimpArgs false
set_option linter.unusedVariables false
namespace Go.Proofs.YtondenmkhfignaaDoor.Code
open Go.Proofs.YtondenmkhfignaaDoor.Ev

end Go.Proofs.YtondenmkhfignaaDoor.Code

/- plain: where a new item stands, of the document: placed. -/
set_option linter.unusedSimpArgs false
set_option linter.unusedVariables false
namespace Go.Proofs.YtondenmkhfignaaDoor.Code
open Go.Proofs.YtondenmkhfignaaDoor.Ev

end Go.Proofs.YtondenmkhfignaaDoor.Code

/- plain: the forest with a new item, of the program and of the document. -/
set_option linter.unusedSimpArgs false
set_option linter.unusedVariables false
namespace Go.Proofs.YtondenmkhfignaaDoor.Code
open Go.Proofs.YtondenmkhfignaaDoor.Ev

theorem fn_uIns {call it} {n : Nat} {res : List CRes} {p : List AV → Heap → Option (List AV × Heap)} (args : List AV) (H : Heap) : evFn call it ⟨n, res, .user p, false, false⟩ args H = bodyK res ((p args H).map fun r => (CX.ret, (argEnv 0 r.1, r.2))) := by
  rw [fn_eq]
  simp only [evCode, user_args]
theorem f26r (H : Heap) (b v n bv : Nat) (els : List (List AV)) (row : List AV) (hb : H[b]? = some ⟨v, true, 46, 2, els⟩) (hv : H[bv]? = some ⟨0, true, 46, 2, [row]⟩) (hne : b ≠ bv) (hn : n = els.length) (hr : n < 100000) (i : Nat) (hi : i ≤ n) :
    cal (evC cprog) false 26 [.ref b v 2 0 n, .int .i64 (i : Int), .ref bv 0 2 0 1] H = some (.ref b (v + 1) 2 0 (n + 1), H.set b ⟨v + 1, true, 46, 2, els.take i ++ row :: els.drop i⟩) := by
  rw [cal_of at26, show c26 = ⟨0, [.t 0], .user (pIns 2 46 24), false, false⟩ from rfl, fn_uIns]
  have hc1 : curBlk H b v 2 = some ⟨v, true, 46, 2, els⟩ := by simp [curBlk, hb]
  have hc2 : curBlk H bv 0 2 = some ⟨0, true, 46, 2, [row]⟩ := by simp [curBlk, hv]
  have h : pIns 2 46 24 [.ref b v 2 0 n, .int .i64 (i : Int), .ref bv 0 2 0 1] H = some ([.ref b (v + 1) 2 0 (n + 1)], H.set b ⟨v + 1, true, 46, 2, els.take i ++ row :: els.drop i⟩) := by
    have ht : els.take n = els := List.take_of_length_le (by omega)
    simp only [pIns, hc1, hc2, List.getElem?_cons_zero]
    rw [if_pos ⟨trivial, trivial, trivial, trivial, hne, by omega, by omega, by omega, by unfold reach; omega, by unfold reach; omega⟩, Int.toNat_natCast, ht]
  rw [h]
  simp only [evX, Int.reduceEq, Int.reduceLT, Int.reduceLE, Nat.reduceMul, Nat.reduceMod, evW, fn_eq, evR, Nat.reduceAdd, Nat.reduceLT, Nat.reduceLeDiff, reduceIte, Nat.reduceEqDiff, reduceCtorEq, argEnv, eq_self, if_true, if_false]
  repeat' ((first | rw [guardK_cases] | rw [condK_bool] | rw [guardD_cases]); split <;> simp only [evX, Int.reduceEq, Int.reduceLT, Int.reduceLE, Nat.reduceMul, Nat.reduceMod, evW, evR, Nat.reduceAdd, Nat.reduceLT, Nat.reduceLeDiff, reduceIte, Nat.reduceEqDiff, reduceCtorEq, argEnv, eq_self, if_true, if_false, *])
  rw [gc_no _ _ _ rfl]
theorem f26n (H : Heap) (bv : Nat) (row : List AV) (hv : H[bv]? = some ⟨0, true, 46, 2, [row]⟩) :
    cal (evC cprog) false 26 [.nil0, .int .i64 0, .ref bv 0 2 0 1] H = some (.ref H.length 0 2 0 1, H ++ [⟨0, true, 46, 2, [row]⟩]) := by
  rw [cal_of at26, show c26 = ⟨0, [.t 0], .user (pIns 2 46 24), false, false⟩ from rfl, fn_uIns]
  have hc2 : curBlk H bv 0 2 = some ⟨0, true, 46, 2, [row]⟩ := by simp [curBlk, hv]
  have h : pIns 2 46 24 [.nil0, .int .i64 0, .ref bv 0 2 0 1] H = some ([.ref H.length 0 2 0 1], H ++ [⟨0, true, 46, 2, [row]⟩]) := by simp [pIns, hc2]
  rw [h]
  simp only [evX, Int.reduceEq, Int.reduceLT, Int.reduceLE, Nat.reduceMul, Nat.reduceMod, evW, fn_eq, evR, Nat.reduceAdd, Nat.reduceLT, Nat.reduceLeDiff, reduceIte, Nat.reduceEqDiff, reduceCtorEq, argEnv, eq_self, if_true, if_false]
  repeat' ((first | rw [guardK_cases] | rw [condK_bool] | rw [guardD_cases]); split <;> simp only [evX, Int.reduceEq, Int.reduceLT, Int.reduceLE, Nat.reduceMul, Nat.reduceMod, evW, evR, Nat.reduceAdd, Nat.reduceLT, Nat.reduceLeDiff, reduceIte, Nat.reduceEqDiff, reduceCtorEq, argEnv, eq_self, if_true, if_false, *])
noncomputable def insE (b : Base) (f : List Item) (p t : Int) (d : ByteArray) : Int := if placeE b f p t d = 0 then (if 200 ≤ f.length then 4 else 0) else placeE b f p t d
noncomputable def insL (b : Base) (f : List Item) (p t : Int) (d : ByteArray) : List Item := if insE b f p t d = 0 then f.take (placeN b f p t d) ++ ⟨t, d⟩ :: f.drop (placeN b f p t d) else []
noncomputable def insN (b : Base) (f : List Item) (p t : Int) (d : ByteArray) : Int := if insE b f p t d = 0 then (placeN b f p t d : Int) else 0
theorem foldD_le {b : Base} {f : List Item} {t : Int} {s : ByteArray} : ∀ (l : List Nat) (a : Nat), a ≤ f.length → (∀ k ∈ l, k < f.length) → l.foldl (atD b f t s) a ≤ f.length
  | [], a, h, _ => h
  | k :: l, a, h, hl => by
    rw [List.foldl_cons]
    refine foldD_le l _ ?_ fun j hj => hl j (List.mem_cons_of_mem _ hj)
    unfold atD
    split
    · exact (endOf_is b.types f (hl k (List.mem_cons_self ..))).le
    · exact h
theorem place_ok {b : Base} (hb : b.Ok) {f : List Item} {p t : Int} {d : ByteArray} (h : placeE b f p t d = 0) : Right b f ∧ argOk b f p t d = true ∧ twice b f p t (keyOf (tyOf b.types t) d) = false ∧ placeN b f p t d ≤ f.length := by
  have h0 := h
  unfold placeE at h
  split at h
  case isFalse he => exact absurd h he
  rename_i he
  split at h
  case isFalse => cases h
  rename_i hg
  split at h
  · cases h
  rename_i htw
  have hr := (errF_zero hb he).1
  have ha := argOk_at hg
  refine ⟨hr, hg, by simpa using htw, ?_⟩
  unfold placeN
  exact foldD_le _ _ (by omega) fun k hk => (mem_chTo.1 hk).1
def eLIE (l : List Item) (n e : Int) : AV := .tup [eItems l, .int .i64 n, .int .i64 e]
theorem f7 (b : Base) (hb : b.Ok) (f : List Item) (hfl : f.length < 9223372036854775807) (p t : Int) (d : ByteArray) (H : Heap) : cal (evC cprog) true 7 [eBase b, eItems f, .int .i64 p, .int .i64 t, .str d] H = some (eLIE (insL b f p t d) (insN b f p t d) (insE b f p t d), H) := by
  rw [cal_of at7]
  have h50 := f25 b hb f hfl p t d
  simp only [eBase] at h50
  have hlen := (sItems [] f).len
  simp only [List.length_map] at hlen
  by_cases he : placeE b f p t d = 0
  · obtain ⟨hr, _, _, hn⟩ := place_ok hb he
    have hl := hr.len
    have hR : placeR b f p t d = (placeN b f p t d : Int) := if_pos he
    rw [hR, he] at h50
    by_cases h200 : 200 ≤ f.length
    · have h200' : (200 : Int) ≤ (f.length : Int) := by omega
      have e1 : insE b f p t d = 4 := by unfold insE; rw [if_pos he, if_pos h200]
      have e2 : insL b f p t d = [] := by unfold insL; rw [e1]; rfl
      have e3 : insN b f p t d = 0 := by unfold insN; rw [e1]; rfl
      rw [e1, e2, e3]
      simp only [c7, eBase, h50, hlen, h200', evX, Int.reduceEq, Int.reduceLT, Int.reduceLE, Nat.reduceMul, Nat.reduceMod, evW, fn_eq, evR, Nat.reduceAdd, Nat.reduceLT, Nat.reduceLeDiff, reduceIte, Nat.reduceEqDiff, reduceCtorEq, argEnv, eq_self, if_true, if_false]
      repeat' ((first | rw [guardK_cases] | rw [condK_bool] | rw [guardD_cases]); split <;> simp only [c7, eBase, h50, hlen, h200', evX, Int.reduceEq, Int.reduceLT, Int.reduceLE, Nat.reduceMul, Nat.reduceMod, evW, evR, Nat.reduceAdd, Nat.reduceLT, Nat.reduceLeDiff, reduceIte, Nat.reduceEqDiff, reduceCtorEq, argEnv, eq_self, if_true, if_false, *])
      exact frz_three (fz_nils _) rfl (by simp) (by simp) _ _ _ _
    · have h200' : ¬ (200 : Int) ≤ (f.length : Int) := by omega
      have e1 : insE b f p t d = 0 := by unfold insE; rw [if_pos he, if_neg h200]
      have e2 : insL b f p t d = f.take (placeN b f p t d) ++ ⟨t, d⟩ :: f.drop (placeN b f p t d) := if_pos e1
      have e3 : insN b f p t d = (placeN b f p t d : Int) := if_pos e1
      rw [e1, e2, e3]
      clear e1 e2 e3 hR
      generalize placeN b f p t d = n at *
      cases hf : f with
      | nil =>
        subst hf
        have hn0 : n = 0 := by simpa using hn
        subst hn0
        have h39 := fun K => clone_nil (ty := 46) (sz := 2) (bytes := 24) at27 K
        have h52 := f26n (H ++ [bBase b, ⟨0, true, 46, 2, [[.int .i64 t, .str d]]⟩]) (H.length + 1) [.int .i64 t, .str d] (by simp)
        simp only [bBase, Int.natCast_zero, eItems, List.map_nil] at h52 h50 hlen h200'
        simp only [c7, eBase, eItems, List.map_nil, h50, hlen, h200', h39, h52, Int.natCast_zero, evX, Int.reduceEq, Int.reduceLT, Int.reduceLE, Nat.reduceMul, Nat.reduceMod, evW, fn_eq, evR, Nat.reduceAdd, Nat.reduceLT, Nat.reduceLeDiff, reduceIte, Nat.reduceEqDiff, reduceCtorEq, argEnv, eq_self, if_true, if_false]
        repeat' ((first | rw [guardK_cases] | rw [condK_bool] | rw [guardD_cases]); split <;> simp only [c7, eBase, eItems, List.map_nil, h50, hlen, h200', h39, h52, Int.natCast_zero, evX, Int.reduceEq, Int.reduceLT, Int.reduceLE, Nat.reduceMul, Nat.reduceMod, evW, evR, Nat.reduceAdd, Nat.reduceLT, Nat.reduceLeDiff, reduceIte, Nat.reduceEqDiff, reduceCtorEq, argEnv, eq_self, if_true, if_false, *])
        obtain ⟨ids, g1, g2⟩ := fz_blk (H := H ++ [bBase b, ⟨0, true, 46, 2, [[.int .i64 t, .str d]]⟩, ⟨0, true, 46, 2, [[.int .i64 t, .str d]]⟩]) (b := H.length + 2) (v := 0) (sz := 2) (len := 1) (k := ⟨0, true, 46, 2, [[.int .i64 t, .str d]]⟩) (by simp [curBlk]) (rows := ([⟨t, d⟩] : List Item).map rItem) rfl (plain_items _) 6
        exact frz_three (ids := ids) g1 rfl (by simp) (fun x hx => by have := g2 x hx; omega) _ _ _ _
      | cons y ys =>
        rw [← hf]
        have hf0 : 0 < f.length := by rw [hf]; simp
        clear hf
        have h39 := f27 hf0 (by omega)
        have h52 := f26r (H ++ [bBase b, ⟨0, true, 46, 2, f.map rItem⟩, ⟨0, true, 46, 2, [[.int .i64 t, .str d]]⟩]) (H.length + 1) 0 f.length (H.length + 2) (f.map rItem) [.int .i64 t, .str d] (by simp) (by simp) (by omega) (by simp) (by omega) n hn
        obtain ⟨Z, hZ⟩ : ∃ Z, Z = (H ++ [bBase b, ⟨0, true, 46, 2, f.map rItem⟩, ⟨0, true, 46, 2, [[.int .i64 t, .str d]]⟩]).set (H.length + 1) ⟨0 + 1, true, 46, 2, (f.map rItem).take n ++ [.int .i64 t, .str d] :: (f.map rItem).drop n⟩ := ⟨_, rfl⟩
        rw [← hZ] at h52
        have zb : Z[H.length + 1]? = some ⟨1, true, 46, 2, (f.map rItem).take n ++ [.int .i64 t, .str d] :: (f.map rItem).drop n⟩ := by rw [hZ, List.getElem?_set_self (by simp)]
        have zt : Z.take H.length = H := by rw [hZ, List.take_set_of_le (by omega)]; simp
        clear hZ
        simp only [bBase] at h52
        simp only [c7, eBase, h50, hlen, h200', h39, h52, evX, Int.reduceEq, Int.reduceLT, Int.reduceLE, Nat.reduceMul, Nat.reduceMod, evW, fn_eq, evR, Nat.reduceAdd, Nat.reduceLT, Nat.reduceLeDiff, reduceIte, Nat.reduceEqDiff, reduceCtorEq, argEnv, eq_self, if_true, if_false]
        repeat' ((first | rw [guardK_cases] | rw [condK_bool] | rw [guardD_cases]); split <;> simp only [c7, eBase, h50, hlen, h200', h39, h52, evX, Int.reduceEq, Int.reduceLT, Int.reduceLE, Nat.reduceMul, Nat.reduceMod, evW, evR, Nat.reduceAdd, Nat.reduceLT, Nat.reduceLeDiff, reduceIte, Nat.reduceEqDiff, reduceCtorEq, argEnv, eq_self, if_true, if_false, *])
        have hrows : (f.map rItem).take n ++ [.int .i64 t, .str d] :: (f.map rItem).drop n = (f.take n ++ ⟨t, d⟩ :: f.drop n).map rItem := by simp [rItem]
        obtain ⟨ids, g1, g2⟩ := fz_blk (H := Z) (b := H.length + 1) (v := 1) (sz := 2) (len := f.length + 1) (k := ⟨1, true, 46, 2, (f.map rItem).take n ++ [.int .i64 t, .str d] :: (f.map rItem).drop n⟩) (by simp [curBlk, zb]) (rows := (f.take n ++ ⟨t, d⟩ :: f.drop n).map rItem) (by
          rw [hrows, List.take_of_length_le (by simp; omega)]) (plain_items _) 6
        exact frz_three (ids := ids) g1 rfl zt (fun x hx => by have := g2 x hx; omega) _ _ _ _
  · have e1 : insE b f p t d = placeE b f p t d := if_neg he
    have e2 : insL b f p t d = [] := by unfold insL; rw [e1, if_neg he]
    have e3 : insN b f p t d = 0 := by unfold insN; rw [e1, if_neg he]
    rw [e1, e2, e3]
    simp only [c7, eBase, h50, he, evX, Int.reduceEq, Int.reduceLT, Int.reduceLE, Nat.reduceMul, Nat.reduceMod, evW, fn_eq, evR, Nat.reduceAdd, Nat.reduceLT, Nat.reduceLeDiff, reduceIte, Nat.reduceEqDiff, reduceCtorEq, argEnv, eq_self, if_true, if_false]
    repeat' ((first | rw [guardK_cases] | rw [condK_bool] | rw [guardD_cases]); split <;> simp only [c7, eBase, h50, he, evX, Int.reduceEq, Int.reduceLT, Int.reduceLE, Nat.reduceMul, Nat.reduceMod, evW, evR, Nat.reduceAdd, Nat.reduceLT, Nat.reduceLeDiff, reduceIte, Nat.reduceEqDiff, reduceCtorEq, argEnv, eq_self, if_true, if_false, *])
    exact frz_three (fz_nils _) rfl (by simp) (by simp) _ _ _ _
end Go.Proofs.YtondenmkhfignaaDoor.Code

/- slices.Insert as a function held by a proof of its own. -/
set_option linter.unusedSimpArgs false
set_option linter.unusedVariables false
namespace Go.Proofs.YtondenmkhfignaaDoor.Code
open Go Go.Proofs Go.RowKit Go.Proofs.YtondenmkhfignaaDoor.Ev

theorem seg_two (l : List Value) (a n : Nat) (h : a ≤ n) : (l.drop a).take (n - a) = (l.take n).drop a := by rw [List.drop_take]
theorem over_list (A : Array Value) (o : Nat) (news : List Value) : (over A o news).toList = A.toList.take o ++ news ++ A.toList.drop (o + news.length) := by simp [over]
/-- what stands in a row's block first -/
theorem one_row {S : Sta} {w : World} {B b : Nat} {k : Blk} {g rc : Nat} {cur : Array Value} (hB : BlkAt S w B b k g rc cur) {row : List AV} (h : k.els[0]? = some row) : RowVals S [row] k.sz (part cur 0 k.sz) ∧ k.sz ≤ cur.size := by
  have hl := (List.getElem?_eq_some_iff.1 h).1
  have hv := hB.vals.take (n := 1) (by omega)
  have ht : k.els.take 1 = [row] := by
    cases he : k.els with
    | nil => rw [he] at h; simp at h
    | cons x xs => rw [he] at h; simp at h; subst h; rfl
  have hm := Nat.mul_le_mul_right k.sz (show 1 ≤ rc by have := hB.le; omega)
  rw [Nat.one_mul] at hm
  have hm2 := Nat.mul_le_mul_right k.sz (show 1 ≤ k.els.length by omega)
  rw [Nat.one_mul] at hm2
  rw [ht, Nat.one_mul, List.take_take, Nat.min_eq_left hm2] at hv
  exact ⟨by simpa [part] using hv, by rw [hB.size]; exact hm⟩
set_option maxRecDepth 100000 in
theorem ins_ok {args : List AV} {H : Heap} {vs' : List AV} {H' : Heap} (h : pIns 2 46 24 args H = some (vs', H')) {S : Sta} {w : World} {B : Nat} {vs : List Value} (hS : S.H = H) (hW : WRel S w B) (hl : args.length = vs.length)
    (hr : ∀ (i : Nat) (x : AV) (v : Value), args[i]? = some x → vs[i]? = some v → RepV S x v) :
    Calls Tryd.prog 26 vs.toArray w fun e w' => ∃ v S', e = .returned v ∧ S'.H = H' ∧ RepV S' (packRes vs') v ∧ WRel S' w' B ∧ Ext S S' ∧ Bel B w w' := by
  subst hS
  rcases pIns_some h with ⟨b, v, n, i, bv, vv, k, kv, row, rfl, hk, hkv, hrow, hty, htv, hne, hn, hi0, hin, hb1, hb2, rfl, rfl⟩ | ⟨a, bv, vv, kv, row, rfl, ha, hkv, hrow, htv, rfl, rfl⟩
  · match vs, hl with
    | [v0, v1, v2], _ =>
      obtain ⟨d1, d2, d3, d4⟩ := curBlk_spec hk
      obtain ⟨c1, c2, c3, c4⟩ := curBlk_spec hkv
      obtain ⟨g, rc, cur, hB⟩ := hW.blk b k d1 d2
      obtain ⟨gv, rcv, curv, hBv⟩ := hW.blk bv kv c1 c2
      obtain ⟨ad, cap, k', rfl, hk', _, hcap, _, hat⟩ := rep_ref (hr 0 _ _ rfl rfl)
      rw [d1] at hk'; cases hk'
      obtain ⟨_, hat⟩ := hat d2 d3 d4
      obtain ⟨g', rc', hm, rfl, hrc⟩ := hat (.inr rfl)
      rw [hB.mu] at hm; cases hm
      rw [Nat.zero_add] at hrc; subst hrc
      have hv1 := rep_int (hr 1 _ _ rfl rfl)
      subst hv1
      obtain ⟨adv, capv, kv', rfl, hkv', _, hcapv, _, hatv⟩ := rep_ref (hr 2 _ _ rfl rfl)
      rw [c1] at hkv'; cases hkv'
      obtain ⟨_, hatv⟩ := hatv c2 c3 c4
      obtain ⟨gv', rcv', hmv, rfl, hrcv⟩ := hatv (.inr rfl)
      rw [hBv.mu] at hmv; cases hmv
      have hng : gv ≠ g := fun e => hne (hW.inj b bv k kv g cap _ d1 d2 c1 c2 hB.mu (by rw [hBv.mu, e]))
      have hh := hB.heap
      have hhv := hBv.heap
      have hsz := hB.size
      have hmax := hB.max
      have hbase := hB.base
      have hle := hB.le
      obtain ⟨hrow1, hszv⟩ := one_row hBv hrow
      have hKv := hB.vals.take hn
      rw [List.take_take, Nat.min_eq_left (Nat.mul_le_mul_right _ hn)] at hKv
      rw [c4] at hrow1 hszv
      rw [d4] at hsz hKv
      rw [hty] at hh
      rw [htv] at hhv
      simp only [Nat.zero_mul] at hh hhv ⊢
      obtain ⟨i, rfl⟩ : ∃ j : Nat, i = (j : Int) := ⟨i.toNat, by omega⟩
      have hil : i ≤ n := by omega
      rw [Int.toNat_natCast]
      have hKlen : (k.els.take n).length = n := by rw [List.length_take]; omega
      have hels : RowVals S ((k.els.take n).take i ++ row :: (k.els.take n).drop i) 2 ((cur.toList.take (n * 2)).take (i * 2) ++ (part curv 0 2 ++ (cur.toList.take (n * 2)).drop (i * 2))) :=
        (hKv.take (by rw [hKlen]; exact hil)).append (hrow1.append (hKv.drop i))
      have hlen : ((k.els.take n).take i ++ row :: (k.els.take n).drop i).length = n + 1 := by
        simp only [List.length_append, List.length_take, List.length_cons, List.length_drop]; omega
      have hone1 : ∀ v ∈ part cur (i * 2) ((n - i) * 2), v.oneCell' = true := by
        have := (hKv.drop i).one
        unfold part
        rw [show (n - i) * 2 = n * 2 - i * 2 by omega, seg_two _ _ _ (by omega)]
        exact this
      have hone2 := hrow1.one
      have hp1 : part cur (i * 2) ((n - i) * 2) = (cur.toList.take (n * 2)).drop (i * 2) := by
        unfold part
        rw [show (n - i) * 2 = n * 2 - i * 2 by omega, seg_two _ _ _ (by omega)]
      have hcl : cur.toList.length = cur.size := Array.length_toList
      have hl2 : (part curv 0 2).length = 2 := part_len (by omega)
      have hl1 : (part cur (i * 2) ((n - i) * 2)).length = (n - i) * 2 := part_len (by omega)
      have htt : (cur.toList.take (n * 2)).take (i * 2) = cur.toList.take (i * 2) := by rw [List.take_take, Nat.min_eq_left (by omega)]
      have hgw : g < w.heap.size := (Array.getElem?_eq_some_iff.1 hh).1
      have hws := hW.base
      have fin : ∀ (w' : World) (g' rc' : Nat) (cur' : Array Value) (rest : List Value), cur'.toList = ((cur.toList.take (n * 2)).take (i * 2) ++ (part curv 0 2 ++ (cur.toList.take (n * 2)).drop (i * 2))) ++ rest → cur'.size = rc' * 2 → n + 1 ≤ rc' → rc' ≤ maxLen → (g' = g ∨ w.heap.size ≤ g') →
          w'.heap[g']? = some (.cells cur' 46 (0, 0)) → (∀ x, x < w.heap.size → x ≠ g → w'.heap[x]? = w.heap[x]?) → Bel B w w' →
          ∃ v' S', Ending.returned (.slice (some ⟨g', 0, none⟩) (n + 1) rc') = .returned v' ∧ S'.H = S.H.set b { k with ver := v + 1, els := (k.els.take n).take i ++ row :: (k.els.take n).drop i } ∧ RepV S' (packRes [.ref b (v + 1) 2 0 (n + 1)]) v' ∧ WRel S' w' B ∧ Ext S S' ∧ Bel B w w' := by
        intro w' g' rc' cur' rest q1 q2 q3 q4 q5 q6 q7 q8
        obtain ⟨S', s1, s2, s3, s4, s5⟩ := ins_post (w' := w') hW d1 d2 hB _ _ (by rw [d4]; exact hels) g' rc' cur' rest q1 (by rw [d4]; exact q2) (by rw [hlen]; exact q3) q4 q5 (by rcases q5 with e | e <;> omega) (by rw [hty]; exact q6) q7 q8
        rw [d4, hlen, d3] at s2
        rw [d3] at s1
        exact ⟨_, S', rfl, s1, s2, s3, s4, s5⟩
      by_cases hroom : n + 1 ≤ cap
      · by_cases hie : i < n
        · have hC := ins_shift w g gv n cap i capv cur curv hie hroom (by unfold maxLen at hmax; omega) hng hh hhv hsz hszv hone1 hone2
          refine hC.mono ?_
          rintro e w' ⟨rfl, rfl⟩
          have hh1 : (w.drew.setRow g (over cur ((i + 1) * 2) (part cur (i * 2) ((n - i) * 2)))).heap[g]? = some (.cells (over cur ((i + 1) * 2) (part cur (i * 2) ((n - i) * 2))) 46 (0, 0)) := setRow_heap w.drew g cur _ 46 (0, 0) hh
          have ho1 : (over cur ((i + 1) * 2) (part cur (i * 2) ((n - i) * 2))).size = cur.size := over_size (by rw [hl1]; omega)
          refine fin _ g cap _ (cur.toList.drop ((n + 1) * 2)) ?_ (by rw [over_size (by rw [hl2, ho1]; omega), ho1, hsz]) hroom hmax (.inl rfl) (setRow_heap _ g _ _ 46 (0, 0) hh1) (fun x _ hx => ?_) ?_
          · rw [over_list, over_list, hl1, hl2, List.append_assoc, List.append_assoc, htt, ← hp1, List.take_append_of_le_length (by rw [List.length_take, hcl]; omega), List.take_take, Nat.min_eq_left (by omega),
              List.drop_append_of_le_length (by rw [List.length_take, hcl]; omega), List.drop_eq_nil_of_le (by rw [List.length_take, hcl]; omega), List.nil_append, show (i + 1) * 2 + (n - i) * 2 = (n + 1) * 2 by omega]
            simp only [List.append_assoc]
          · rw [setRow_other _ _ _ _ hx, setRow_other _ _ _ _ hx]; rfl
          · exact ((Bel.refl B w).drew.trans (below_setRow' hbase _)).trans (below_setRow' hbase _)
        · have hie : i = n := by omega
          subst hie
          have hC := ins_room w g gv i cap capv cur curv hroom (by unfold maxLen at hmax; omega) hh hhv hsz hszv hone2
          refine hC.mono ?_
          rintro e w' ⟨rfl, rfl⟩
          refine fin _ g cap _ (cur.toList.drop ((i + 1) * 2)) ?_ (by rw [over_size (by rw [hl2]; omega), hsz]) hroom hmax (.inl rfl) (setRow_heap w g cur _ 46 (0, 0) hh) (fun x _ hx => setRow_other _ _ _ _ hx) (below_setRow' hbase _)
          have hd : (cur.toList.take (i * 2)).drop (i * 2) = [] := List.drop_eq_nil_of_le (by rw [List.length_take]; omega)
          rw [over_list, hl2, htt, hd, List.append_nil, show i * 2 + 2 = (i + 1) * 2 by omega]
      · obtain ⟨i0, z, hi0, hi1, hi2, hz, hzc⟩ := ins_inf
        have hG := grownCap_ge w (n + 1) cap 46
        have hGm : grownCap w (n + 1) cap 46 ≤ maxLen := grownCap_le_maxLen w (n + 1) cap 46 (by unfold reach at hb2; simp only [maxLen]; omega)
        by_cases hie : i < n
        · obtain ⟨R, hRs, hRt, hC⟩ := ins_grow w g gv n cap i capv cur curv hie (by omega) (by omega) hb1 hb2 hh hhv hsz hszv hone1 hone2
          refine hC.mono ?_
          rintro e w' ⟨rfl, rfl⟩
          have hN : (w.alloc (.cells R 46)).drew.heap[w.heap.size]? = some (.cells R 46 (0, 0)) := heap_alloc_new w _
          have hN2 : ((w.alloc (.cells R 46)).drew.setRow w.heap.size (over R (i * 2) (part curv 0 2))).drew.heap[w.heap.size]? = some (.cells (over R (i * 2) (part curv 0 2)) 46 (0, 0)) := setRow_heap _ _ R _ 46 (0, 0) hN
          have hos : (over R (i * 2) (part curv 0 2)).size = R.size := over_size (by rw [hl2, hRs]; omega)
          have hRl : R.toList.length = R.size := Array.length_toList
          refine fin _ w.heap.size (grownCap w (n + 1) cap 46) _ ((over R (i * 2) (part curv 0 2)).toList.drop ((n + 1) * 2)) ?_ (by rw [over_size (by rw [hl1, hos, hRs]; omega), hos, hRs]) hG hGm (.inr (Nat.le_refl _)) (setRow_heap _ _ _ _ 46 (0, 0) hN2) (fun x hx _ => ?_) ?_
          · rw [over_list, hl1, show (i + 1) * 2 + (n - i) * 2 = (n + 1) * 2 by omega, htt, ← hp1]
            congr 1
            rw [over_list, hRt, hl2, List.take_append_of_le_length (by rw [List.length_append, hl2, part_len (by omega)]; omega), List.take_of_length_le (by rw [List.length_append, hl2, part_len (by omega)]; omega)]
            simp only [List.append_assoc]
            rfl
          · rw [setRow_other _ _ _ _ (by omega)]
            have h3 : ((w.alloc (.cells R 46)).drew.setRow w.heap.size (over R (i * 2) (part curv 0 2))).heap[x]? = (w.alloc (.cells R 46)).heap[x]? := setRow_other _ _ _ _ (by omega)
            have h4 : (w.alloc (.cells R 46)).heap[x]? = w.heap[x]? := by apply heap_alloc_old; exact hx
            exact h3.trans h4
          · have b1 : Bel B w (w.alloc (.cells R 46)).drew := ((Bel.refl B w).alloc hws _).drew
            exact ((b1.trans (below_setRow' hws _)).drew).trans (below_setRow' hws _)
        · have hie : i = n := by omega
          subst hie
          have hC := ins_tail w g gv i cap capv cur curv z (by rw [hi0]; exact hz) (by omega) (by omega) hb1 hb2 hh hhv hsz hszv
          refine hC.mono ?_
          rintro e w' ⟨rfl, rfl⟩
          have hl0 : (part cur 0 (i * 2)).length = i * 2 := part_len (by omega)
          refine fin _ w.heap.size (grownCap w (i + 1) cap 46) _ (Builtin.zeroCells z.cells (grownCap w (i + 1) cap 46 - (i + 1))).toList ?_ ?_ hG hGm (.inr (Nat.le_refl _)) (heap_alloc_new w.drew _) (fun x hx _ => ?_) ((Bel.refl B w).drew.alloc hws _)
          · rw [htt, List.drop_eq_nil_of_le (by rw [List.length_take, hcl]; omega), List.append_nil]
            simp [part]
          · simp only [Array.size_append, List.size_toArray, List.length_append, size_zeroCells, hzc, hl0, hl2]; omega
          · apply heap_alloc_old; exact hx
  · match vs, hl with
    | [v0, v1, v2], _ =>
      obtain ⟨c1, c2, c3, c4⟩ := curBlk_spec hkv
      obtain ⟨gv, rcv, curv, hBv⟩ := hW.blk bv kv c1 c2
      have hv0 : ∃ ad, v0 = .slice ad 0 0 := by
        rcases ha with rfl | rfl
        · exact ⟨none, rep_nils (hr 0 _ _ rfl rfl)⟩
        · exact rep_nil0 (hr 0 _ _ rfl rfl)
      obtain ⟨ad, rfl⟩ := hv0
      have hv1 := rep_int (hr 1 _ _ rfl rfl)
      subst hv1
      obtain ⟨adv, capv, kv', rfl, hkv', _, hcapv, _, hatv⟩ := rep_ref (hr 2 _ _ rfl rfl)
      rw [c1] at hkv'; cases hkv'
      obtain ⟨_, hatv⟩ := hatv c2 c3 c4
      obtain ⟨gv', rcv', hmv, rfl, hrcv⟩ := hatv (.inr rfl)
      rw [hBv.mu] at hmv; cases hmv
      have hhv := hBv.heap
      obtain ⟨hrow1, hszv⟩ := one_row hBv hrow
      rw [c4] at hrow1 hszv
      rw [htv] at hhv
      simp only [Nat.zero_mul] at hhv ⊢
      have hws := hW.base
      have hl2 : (part curv 0 2).length = 2 := part_len (by omega)
      obtain ⟨i0, z, hi0, hi1, hi2, hz, hzc⟩ := ins_inf
      have hG := grownCap_ge w 1 0 46
      have hGm : grownCap w 1 0 46 ≤ maxLen := grownCap_le_maxLen w 1 0 46 (by simp only [maxLen]; omega)
      refine (ins_none w ad gv capv curv z (by rw [hi0]; exact hz) hhv hszv).mono ?_
      rintro e w' ⟨rfl, rfl⟩
      obtain ⟨S', s1, s2, s3, s4, s5⟩ := hW.drew.push 46 2 (grownCap w 1 0 46) [row] ((part curv 0 2).toArray ++ Builtin.zeroCells z.cells (grownCap w 1 0 46 - 1))
        (by simp only [Array.size_append, List.size_toArray, size_zeroCells, hzc, hl2]; omega) (by simpa using hG) hGm hrow1.row
        (fun j c r x hj hc => by
          obtain ⟨u, hu, hru⟩ := hrow1.cell j c r x hj hc
          refine ⟨u, ?_, hru⟩
          rw [← Array.getElem?_toList, Array.toList_append, List.getElem?_append_left (by simpa using (List.getElem?_eq_some_iff.1 hu).1)]
          simpa using hu)
      refine ⟨_, S', rfl, s1, .one (.s (.ref _ _ _ _ _ _ _ ⟨0, true, 46, 2, [row]⟩ ?_ (Nat.le_refl _) hG rfl fun _ _ _ => ⟨by simp, fun _ => ⟨w.heap.size, grownCap w 1 0 46, ?_, by simp, by omega⟩⟩)), s5, s4, (Bel.refl B w).drew.alloc hws _⟩
      · rw [s1]; simp
      · rw [s2, ← hW.len]
        simp
theorem userIns {c : CFn} (hb : c.body = .user (pIns 2 46 24)) (hcl : c.closed = false) (hsp : c.split = false) (hres : c.res = [.t 0]) : UserOk Tryd.prog 26 c where
  fn := ⟨Tryd.f26, Tryd.func26, by kernel_rfl, by kernel_rfl⟩
  user := ⟨_, hb⟩
  plain := ⟨hcl, hsp⟩
  res := ⟨1, by rw [hres]; rfl, by
    intro p hp args H q hq
    rw [hb] at hp; cases hp
    rcases pIns_some (by rw [hq]) with ⟨_, _, _, _, _, _, _, _, _, _, _, _, _, _, _, _, _, _, _, _, _, h, _⟩ | ⟨_, _, _, _, _, _, _, _, _, _, h, _⟩ <;> rw [h] <;> rfl⟩
  ok := by
    intro p hp args H vs' H' h S w B vs hS hW hl hr
    rw [hb] at hp; cases hp
    exact ins_ok h hS hW hl hr
end Go.Proofs.YtondenmkhfignaaDoor.Code

/- TopForest: all functions are held, by the kernel's look or by a proof of their own. -/
set_option linter.unusedSimpArgs false
set_option linter.unusedVariables false
namespace Go.Proofs.YtondenmkhfignaaDoor.Code
open Go.Proofs.YtondenmkhfignaaDoor.Ev

theorem cprog_sound {f : Nat} {c : CFn} (h : cprog f = some c) : okFn Go.Proofs.Tryd.prog f c = true ∨ Held Go.Proofs.Tryd.prog f c := by
  rcases cprog_ok h with h | h
  · exact .inl h
  · simp only [utab, List.mem_cons, Prod.mk.injEq, List.not_mem_nil, or_false] at h
    rcases h with ⟨rfl, rfl⟩ | ⟨rfl, rfl⟩
    · first | exact .inr (.inl (userRepl rfl rfl rfl rfl)) | exact .inr (.inl (userIns rfl rfl rfl rfl))
    · first | exact .inr (.inl (userRepl rfl rfl rfl rfl)) | exact .inr (.inl (userIns rfl rfl rfl rfl))
end Go.Proofs.YtondenmkhfignaaDoor.Code

/- octet.Key, of the program and of the document: the keys of lists of texts. -/
set_option linter.unusedSimpArgs false
set_option linter.unusedVariables false
namespace Go.Proofs.YtondenmkhfignaaDoor.Code
open Go.Proofs.YtondenmkhfignaaDoor.Ev

def rS (s : ByteArray) : List AV := [.str s]
def rU (b : UInt8) : List AV := [.int .u8 (b.toNat : Int)]
def eU (l : List UInt8) : AV := .lst (l.map rU)
theorem aU {l : List UInt8} {i : Nat} {x : UInt8} (hx : l[i]? = some x) : iaddrK 1 (some (eU l)) (some (.int .i64 (i : Int))) = some (.fptr (rU x)) := lFp rU (fun _ => rfl) hx
theorem sU (H : Heap) (l : List UInt8) : SlAt H 1 (eU l) (l.map rU) := sLst rU (fun _ => rfl) H l
def keyG (_ : Nat) (s : ByteArray) : List UInt8 := esc s.data.toList ++ [0, 1]
def keyU (l : List ByteArray) : List UInt8 := gath keyG 0 l
theorem gath_map {α β : Type} (g : α → List β) : ∀ (k : Nat) (l : List α), gath (fun _ x => g x) k l = l.flatMap g
  | _, [] => rfl
  | k, x :: l => by rw [gath, gath_map g (k + 1) l, List.flatMap_cons]
theorem keyU_eq (l : List ByteArray) : keyU l = keyL (l.map fun s => s.data.toList) := by
  show gath (fun _ (s : ByteArray) => esc s.data.toList ++ [0, 1]) 0 l = _
  rw [gath_map, keyL, List.flatMap_map]
theorem strs_inj : ∀ {a b : List ByteArray}, a.map (fun s => s.data.toList) = b.map (fun s => s.data.toList) → a = b
  | [], [], _ => rfl
  | [], _ :: _, h => by simp at h
  | _ :: _, [], h => by simp at h
  | x :: a, y :: b, h => by
    simp only [List.map_cons, List.cons.injEq] at h
    rw [data_ext (Array.toList_inj.1 h.1), strs_inj h.2]
theorem keyU_inj {a b : List ByteArray} (h : keyU a = keyU b) : a = b := by
  rw [keyU_eq, keyU_eq] at h
  exact strs_inj (keyL_inj h)
theorem data_len (s : ByteArray) : s.data.toList.length = s.size := Array.length_toList
theorem keyG_len (l : List ByteArray) (h : ∀ s ∈ l, s.size ≤ 1000) : ∀ k, (gath keyG k l).length ≤ 2002 * l.length := by
  induction l with
  | nil => intro k; simp [gath]
  | cons s l ih =>
    intro k
    have h1 := h s (by simp)
    have h2 := ih (fun t ht => h t (by simp [ht])) (k + 1)
    have h3 := esc_len s.data.toList
    rw [data_len] at h3
    simp only [gath, keyG, List.length_append, List.length_cons, List.length_nil]
    omega
theorem plain_U (q : List UInt8) : Plain (q.map rU) := by
  intro r hr a ha
  obtain ⟨n, _, rfl⟩ := List.mem_map.1 hr
  obtain rfl : a = .int .u8 (n.toNat : Int) := by simpa [rU] using ha
  exact ⟨rfl, fun _ _ => rfl⟩
theorem rU_rows (q : List UInt8) : ∀ r ∈ q.map rU, r.length = 1 := fun r hr => by obtain ⟨y, _, rfl⟩ := List.mem_map.1 hr; rfl
theorem byteRows_U (s : ByteArray) : byteRows s = s.data.toList.map rU := rfl
theorem fn_uRep {call it} {n : Nat} {res : List CRes} {p : List AV → Heap → Option (List AV × Heap)} (args : List AV) (H : Heap) : evFn call it ⟨n, res, .user p, false, false⟩ args H = bodyK res ((p args H).map fun r => (CX.ret, (argEnv 0 r.1, r.2))) := by
  rw [fn_eq]
  simp only [evCode, user_args]
theorem f62 (s : ByteArray) (hs : s.size ≤ 1000000) (H : Heap) : cal (evC cprog) false 62 [.str s, .str ⟨#[0]⟩, .str ⟨#[0, 255]⟩] H = some (.str ⟨(esc s.data.toList).toArray⟩, H) := by
  rw [cal_of at62, show c62 = ⟨0, [.t 0], .user pRepl, false, false⟩ from rfl, fn_uRep]
  have h : pRepl [.str s, .str ⟨#[0]⟩, .str ⟨#[0, 255]⟩] H = some ([.str ⟨(esc s.data.toList).toArray⟩], H) := by
    simp only [pRepl]
    rw [if_pos ⟨trivial, trivial, hs⟩]
  rw [h]
  simp only [evX, Int.reduceEq, Int.reduceLT, Int.reduceLE, Nat.reduceMul, Nat.reduceMod, evW, fn_eq, evR, Nat.reduceAdd, Nat.reduceLT, Nat.reduceLeDiff, reduceIte, Nat.reduceEqDiff, reduceCtorEq, argEnv, eq_self, if_true, if_false]
  repeat' ((first | rw [guardK_cases] | rw [condK_bool] | rw [guardD_cases]); split <;> simp only [evX, Int.reduceEq, Int.reduceLT, Int.reduceLE, Nat.reduceMul, Nat.reduceMod, evW, evR, Nat.reduceAdd, Nat.reduceLT, Nat.reduceLeDiff, reduceIte, Nat.reduceEqDiff, reduceCtorEq, argEnv, eq_self, if_true, if_false, *])
theorem slS {H : Heap} {a : AV} {l : List ByteArray} (h : SlAt H 1 a (l.map rS)) {i : Nat} {s : ByteArray} (hi : l[i]? = some s) : ∃ p, iaddrK 1 (some a) (some (.int .i64 (i : Int))) = some p ∧ ∀ X, loadK false 1 (H ++ X) (some p) = some (.str s) := by
  obtain ⟨_, p, h1, h2⟩ := h.get i (rS s) (by rw [List.getElem?_map, hi]; rfl)
  exact ⟨p, h1, fun X => h2.onex X⟩
theorem f54 (a : AV) (l : List ByteArray) (hl : l.length ≤ 1000) (hs : ∀ s ∈ l, s.size ≤ 1000) (H : Heap) (hsl : SlAt H 1 a (l.map rS)) : cal (evC cprog) true 54 [a] H = some (eU (keyU l), H) := by
  rw [cal_of at54]
  have hlen := hsl.len
  simp only [List.length_map] at hlen
  simp only [c54, hlen, evX, Int.reduceEq, Int.reduceLT, Int.reduceLE, Nat.reduceMul, Nat.reduceMod, evW, fn_eq, evR, Nat.reduceAdd, Nat.reduceLT, Nat.reduceLeDiff, reduceIte, Nat.reduceEqDiff, reduceCtorEq, argEnv, eq_self, if_true, if_false]
  repeat' ((first | rw [guardK_cases] | rw [condK_bool] | rw [guardD_cases]); split <;> simp only [c54, hlen, evX, Int.reduceEq, Int.reduceLT, Int.reduceLE, Nat.reduceMul, Nat.reduceMod, evW, evR, Nat.reduceAdd, Nat.reduceLT, Nat.reduceLeDiff, reduceIte, Nat.reduceEqDiff, reduceCtorEq, argEnv, eq_self, if_true, if_false, *])
  generalize hz : itLim _ _ = z
  obtain ⟨T, X, rv, rfl, hT, hO⟩ := gath_rule l keyG rU [3, 6, 7, 8] (fun i rv => [(3, rv), (6, a), (7, .int .i64 (l.length : Int)), (8, .int .i64 (i : Int))]) H 1 5 (evCode (evC cprog) itLim c54_l0) 0 [3] (fun rv => [(3, rv)])
    (fun i s hx E X rv hE hO => by
      have hlt : i < l.length := (List.getElem?_eq_some_iff.1 hx).1
      have hi : (i : Int) < (l.length : Int) := by omega
      have hw := wrapS hlt (by omega)
      obtain ⟨p, hp, hq⟩ := slS hsl hx
      have hss := hs s (List.mem_of_getElem? hx)
      have h66 := fun K => f62 s (by omega) K
      have hb := keyG_len (l.take i) (fun t ht => hs t (List.mem_of_mem_take ht)) 0
      rw [List.length_take] at hb
      have he := esc_len s.data.toList
      rw [data_len] at he
      obtain ⟨rv1, X1, a1, a2, a3⟩ := hO.app H rfl 1 (.str ⟨(esc s.data.toList).toArray⟩) ((esc s.data.toList).map rU) (by simp [srcRows, byteRows_U]) (rU_rows _) (by simp only [List.length_map, reach]; omega)
      have a3' := a3.more [⟨0, true, 5, 1, [[.int .u8 0], [.int .u8 1]]⟩]
      obtain ⟨rv2, X2, b1, b2, b3⟩ := a3'.app H rfl 1 (.ref (H.length + X1.length) 0 1 0 2) [[.int .u8 0], [.int .u8 1]] (by simp [srcRows, rowsOf, curBlk, at_app]) (by simp) (by simp only [List.length_map, List.length_append, List.length_cons, List.length_nil, reach]; omega)
      simp only [c54_l0, hE, hi, hp, hq, h66, a1, a2, b1, b2, hw, evX, Int.reduceEq, Int.reduceLT, Int.reduceLE, Nat.reduceMul, Nat.reduceMod, evW, fn_eq, evR, Nat.reduceAdd, Nat.reduceLT, Nat.reduceLeDiff, reduceIte, Nat.reduceEqDiff, reduceCtorEq, argEnv, eq_self, if_true, if_false]
      repeat' ((first | rw [guardK_cases] | rw [condK_bool] | rw [guardD_cases]); split <;> simp only [c54_l0, hE, hi, hp, hq, h66, a1, a2, b1, b2, hw, evX, Int.reduceEq, Int.reduceLT, Int.reduceLE, Nat.reduceMul, Nat.reduceMod, evW, evR, Nat.reduceAdd, Nat.reduceLT, Nat.reduceLeDiff, reduceIte, Nat.reduceEqDiff, reduceCtorEq, argEnv, eq_self, if_true, if_false, *])
      exact ⟨_, _, _, rfl, by rfl, by simpa [keyG, rU] using b3⟩)
    (fun E X rv hE => by
      simp only [c54_l0, hE, Int.lt_irrefl, evX, Int.reduceEq, Int.reduceLT, Int.reduceLE, Nat.reduceMul, Nat.reduceMod, evW, fn_eq, evR, Nat.reduceAdd, Nat.reduceLT, Nat.reduceLeDiff, reduceIte, Nat.reduceEqDiff, reduceCtorEq, argEnv, eq_self, if_true, if_false]
      repeat' ((first | rw [guardK_cases] | rw [condK_bool] | rw [guardD_cases]); split <;> simp only [c54_l0, hE, Int.lt_irrefl, evX, Int.reduceEq, Int.reduceLT, Int.reduceLE, Nat.reduceMul, Nat.reduceMod, evW, evR, Nat.reduceAdd, Nat.reduceLT, Nat.reduceLeDiff, reduceIte, Nat.reduceEqDiff, reduceCtorEq, argEnv, eq_self, if_true, if_false, *])
      exact ⟨_, rfl, by rfl⟩) _ [] .nils (.nils ..) (by rfl) (by simp) z hz
  simp only [hT, out_tup hO, evX, Int.reduceEq, Int.reduceLT, Int.reduceLE, Nat.reduceMul, Nat.reduceMod, evW, fn_eq, evR, Nat.reduceAdd, Nat.reduceLT, Nat.reduceLeDiff, reduceIte, Nat.reduceEqDiff, reduceCtorEq, argEnv, eq_self, if_true, if_false]
  repeat' ((first | rw [guardK_cases] | rw [condK_bool] | rw [guardD_cases]); split <;> simp only [hT, out_tup hO, evX, Int.reduceEq, Int.reduceLT, Int.reduceLE, Nat.reduceMul, Nat.reduceMod, evW, evR, Nat.reduceAdd, Nat.reduceLT, Nat.reduceLeDiff, reduceIte, Nat.reduceEqDiff, reduceCtorEq, argEnv, eq_self, if_true, if_false, *])
  exact frz_out hO H [] (by simp) (plain_U _)
end Go.Proofs.YtondenmkhfignaaDoor.Code

/- ref01.Key: the document's keys of lists of texts. -/
set_option linter.unusedSimpArgs false
set_option linter.unusedVariables false
namespace Go.Proofs.YtondenmkhfignaaDoor.Code
open Go.Proofs.YtondenmkhfignaaDoor.Ev

end Go.Proofs.YtondenmkhfignaaDoor.Code

/- (stands where another seat has texts of its own) -/
set_option linter.unusedSimpArgs false
set_option linter.unusedVariables false

/- logic: paths, of the program and of the document. -/
set_option linter.unusedSimpArgs false
set_option linter.unusedVariables false
namespace Go.Proofs.YtondenmkhfignaaDoor.Code
open Go.Proofs.YtondenmkhfignaaDoor.Ev

/-- the ends of a list, changed with each other -/
def swp (l : List Int) (t : Nat) : List Int := (List.range l.length).map fun k => if k < t ∨ l.length ≤ k + t then l.getD (l.length - 1 - k) 0 else l.getD k 0
theorem swp_len (l : List Int) (t : Nat) : (swp l t).length = l.length := by simp [swp]
theorem swp_at (l : List Int) (t k : Nat) (hk : k < l.length) : (swp l t)[k]? = some (if k < t ∨ l.length ≤ k + t then l.getD (l.length - 1 - k) 0 else l.getD k 0) := by simp [swp, hk]
theorem swp_zero (l : List Int) : swp l 0 = l := by
  apply List.ext_getElem? 
  intro k
  by_cases hk : k < l.length
  · rw [swp_at l 0 k hk, if_neg (by omega), List.getD_eq_getElem?_getD, List.getElem?_eq_getElem hk]; rfl
  · rw [List.getElem?_eq_none (by rw [swp_len]; omega), List.getElem?_eq_none (by omega)]
theorem swp_all (l : List Int) (t : Nat) (h : l.length ≤ 2 * t + 1) : swp l t = l.reverse := by
  apply List.ext_getElem?
  intro k
  by_cases hk : k < l.length
  · rw [swp_at l t k hk, List.getElem?_reverse hk]
    have e : (if k < t ∨ l.length ≤ k + t then l.getD (l.length - 1 - k) 0 else l.getD k 0) = l.getD (l.length - 1 - k) 0 := by
      split
      · rfl
      · congr 1; omega
    rw [e, List.getD_eq_getElem?_getD, List.getElem?_eq_getElem (by omega)]; rfl
  · rw [List.getElem?_eq_none (by rw [swp_len]; omega), List.getElem?_eq_none (by simp; omega)]
theorem swp_step (l : List Int) (t : Nat) (h : 2 * t + 1 < l.length) : ((swp l t).set t (l.getD (l.length - 1 - t) 0)).set (l.length - 1 - t) (l.getD t 0) = swp l (t + 1) := by
  apply List.ext_getElem?
  intro k
  by_cases hk : k < l.length
  · rw [swp_at l (t + 1) k hk, List.getElem?_set, List.getElem?_set]
    simp only [List.length_set, swp_len]
    by_cases h1 : l.length - 1 - t = k
    · rw [if_pos h1, if_pos (by omega), if_pos (by omega)]
      congr 2; omega
    · rw [if_neg h1]
      by_cases h2 : t = k
      · rw [if_pos h2, if_pos (by omega), if_pos (by omega), h2]
      · rw [if_neg h2, swp_at l t k hk]
        congr 1
        by_cases h3 : k < t ∨ l.length ≤ k + t
        · rw [if_pos h3, if_pos (by omega)]
        · rw [if_neg h3, if_neg (by omega)]
  · rw [List.getElem?_eq_none (by simp [swp_len]; omega), List.getElem?_eq_none (by rw [swp_len]; omega)]
theorem swp_row {l : List Int} {t k : Nat} (h1 : t ≤ k) (h2 : k + t < l.length) : ((swp l t).map rI)[k]? = some [.int .i64 (l.getD k 0)] := by
  rw [List.getElem?_map, swp_at l t k (by omega), if_neg (by omega)]; rfl
theorem f51 (H : Heap) (b v : Nat) (l : List Int) (hb : H[b]? = some ⟨v, true, 3, 1, l.map rI⟩) (h0 : 0 < l.length) (hl : l.length ≤ 1000) : cal (evC cprog) false 51 [.ref b v 1 0 l.length] H = some (.tup [], H.set b ⟨v, true, 3, 1, l.reverse.map rI⟩) := by
  rw [cal_of at51]
  have hbl := (List.getElem?_eq_some_iff.1 hb).1
  have hw0 : IntKind.i64.wrap ((l.length : Int) - 1) = ((l.length - 1 : Nat) : Int) := by rw [wrap_i64 (by omega) (by omega)]; omega
  simp only [c51, hw0, evX, Int.reduceEq, Int.reduceLT, Int.reduceLE, Nat.reduceMul, Nat.reduceMod, evW, fn_eq, evR, Nat.reduceAdd, Nat.reduceLT, Nat.reduceLeDiff, reduceIte, Nat.reduceEqDiff, reduceCtorEq, argEnv, eq_self, if_true, if_false]
  repeat' ((first | rw [guardK_cases] | rw [condK_bool] | rw [guardD_cases]); split <;> simp only [c51, hw0, evX, Int.reduceEq, Int.reduceLT, Int.reduceLE, Nat.reduceMul, Nat.reduceMod, evW, evR, Nat.reduceAdd, Nat.reduceLT, Nat.reduceLeDiff, reduceIte, Nat.reduceEqDiff, reduceCtorEq, argEnv, eq_self, if_true, if_false, *])
  generalize hz : itLim _ _ = z
  have L := loop_rule (σ := Nat) (m := [0, 2, 3]) (env := fun t => [(0, .ref b v 1 0 l.length), (2, .int .i64 (t : Int)), (3, .int .i64 ((l.length - 1 - t : Nat) : Int))]) (hp := fun t => H.set b ⟨v, true, 3, 1, (swp l t).map rI⟩)
    (P := fun _ r => ∃ T, r = (.exit 0, T, H.set b ⟨v, true, 3, 1, l.reverse.map rI⟩))
    (mu := fun t => l.length - t) (I := fun t => 2 * t ≤ l.length) (evCode (evC cprog) itLim c51_l0) ?_ 0 _ (by omega) (by rfl) (by
      rw [swp_zero]
      exact List.ext_getElem? fun j => by
        by_cases e : b = j
        · subst e; rw [List.getElem?_set_self hbl, hb]
        · rw [List.getElem?_set_ne e]) z hz
  · obtain ⟨_, rfl, T, rfl⟩ := L
    simp only [evX, Int.reduceEq, Int.reduceLT, Int.reduceLE, Nat.reduceMul, Nat.reduceMod, evW, fn_eq, evR, Nat.reduceAdd, Nat.reduceLT, Nat.reduceLeDiff, reduceIte, Nat.reduceEqDiff, reduceCtorEq, argEnv, eq_self, if_true, if_false]
    repeat' ((first | rw [guardK_cases] | rw [condK_bool] | rw [guardD_cases]); split <;> simp only [evX, Int.reduceEq, Int.reduceLT, Int.reduceLE, Nat.reduceMul, Nat.reduceMod, evW, evR, Nat.reduceAdd, Nat.reduceLT, Nat.reduceLeDiff, reduceIte, Nat.reduceEqDiff, reduceCtorEq, argEnv, eq_self, if_true, if_false, *])
    show some (AV.tup [], gc H (AV.tup []) (H.set b ⟨v, true, 3, 1, l.reverse.map rI⟩)) = _
    rcases gc_or H (.tup []) (H.set b ⟨v, true, 3, 1, l.reverse.map rI⟩) with h | ⟨h, ht⟩
    · rw [h]
    · rw [List.take_of_length_le (by simp)] at ht
      rw [h, ht]
  · intro t ht E hE
    by_cases hlt : 2 * t + 1 < l.length
    · have hii : (t : Int) < ((l.length - 1 - t : Nat) : Int) := by omega
      have r1 := swp_row (l := l) (t := t) (k := t) (Nat.le_refl _) (by omega)
      have r2 := swp_row (l := l) (t := t) (k := l.length - 1 - t) (by omega) (by omega)
      have r3 : (((swp l t).map rI).set t [.int .i64 (l.getD (l.length - 1 - t) 0)])[l.length - 1 - t]? = some [.int .i64 (l.getD (l.length - 1 - t) 0)] := by
        rw [List.getElem?_set_ne (by omega)]; exact r2
      have hst : (((swp l t).map rI).set t [.int .i64 (l.getD (l.length - 1 - t) 0)]).set (l.length - 1 - t) [.int .i64 (l.getD t 0)] = (swp l (t + 1)).map rI := by
        rw [← swp_step l t hlt, List.map_set, List.map_set]; rfl
      have k1 : t < l.length := by omega
      have k2 : l.length - 1 - t < l.length := by omega
      have hw1 : IntKind.i64.wrap ((t : Int) + 1) = ((t + 1 : Nat) : Int) := by rw [wrap_i64 (by omega) (by omega)]; omega
      have hw2 : IntKind.i64.wrap (((l.length - 1 - t : Nat) : Int) - 1) = ((l.length - 1 - (t + 1) : Nat) : Int) := by rw [wrap_i64 (by omega) (by omega)]; omega
      have hat : ∀ B, (H.set b B)[b]? = some B := fun B => List.getElem?_set_self hbl
      generalize l.length - 1 - t = j at *
      simp only [c51_l0, hE, hii, hat, r1, r2, r3, hst, List.set_set, k1, k2, hw1, hw2, asNat_cast, evX, Int.reduceEq, Int.reduceLT, Int.reduceLE, Nat.reduceMul, Nat.reduceMod, evW, fn_eq, evR, Nat.reduceAdd, Nat.reduceLT, Nat.reduceLeDiff, reduceIte, Nat.reduceEqDiff, reduceCtorEq, argEnv, eq_self, if_true, if_false]
      repeat' ((first | rw [guardK_cases] | rw [condK_bool] | rw [guardD_cases]); split <;> simp only [c51_l0, hE, hii, hat, r1, r2, r3, hst, List.set_set, k1, k2, hw1, hw2, asNat_cast, evX, Int.reduceEq, Int.reduceLT, Int.reduceLE, Nat.reduceMul, Nat.reduceMod, evW, evR, Nat.reduceAdd, Nat.reduceLT, Nat.reduceLeDiff, reduceIte, Nat.reduceEqDiff, reduceCtorEq, argEnv, eq_self, if_true, if_false, *])
      exact q_next (t + 1) (by rfl) (by rfl) (by omega) (by omega) fun r h => h
    · have hii : ¬ (t : Int) < ((l.length - 1 - t : Nat) : Int) := by omega
      rw [swp_all l t (by omega)]
      simp only [c51_l0, hE, hii, evX, Int.reduceEq, Int.reduceLT, Int.reduceLE, Nat.reduceMul, Nat.reduceMod, evW, fn_eq, evR, Nat.reduceAdd, Nat.reduceLT, Nat.reduceLeDiff, reduceIte, Nat.reduceEqDiff, reduceCtorEq, argEnv, eq_self, if_true, if_false]
      repeat' ((first | rw [guardK_cases] | rw [condK_bool] | rw [guardD_cases]); split <;> simp only [c51_l0, hE, hii, evX, Int.reduceEq, Int.reduceLT, Int.reduceLE, Nat.reduceMul, Nat.reduceMod, evW, evR, Nat.reduceAdd, Nat.reduceLT, Nat.reduceLeDiff, reduceIte, Nat.reduceEqDiff, reduceCtorEq, argEnv, eq_self, if_true, if_false, *])
      exact q_exit ⟨_, rfl⟩
end Go.Proofs.YtondenmkhfignaaDoor.Code

/- logic: paths, of the program and of the document: the walks up. -/
set_option linter.unusedSimpArgs false
set_option linter.unusedVariables false
namespace Go.Proofs.YtondenmkhfignaaDoor.Code
open Go.Proofs.YtondenmkhfignaaDoor.Ev

/-- a walk up: what is ahead, and what was walked -/
structure Walks (b : Base) (f : List Item) (i : Nat) (c : Int) (acc : List Int) : Prop where
  lo : -1 ≤ c
  hi : c < (f.length : Int)
  eq : pth b.types f i = pthI b.types f c ++ acc
  len : (acc.length : Int) + c ≤ (f.length : Int)
theorem Walks.step {b : Base} {f : List Item} {i c : Nat} {acc : List Int} (w : Walks b f i (c : Int) acc) : Walks b f i (par b.types f c) ((c : Int) :: acc) := by
  have h1 := w.hi
  have hp := par_lt b.types f c
  refine ⟨hp.1, by omega, ?_, by have := w.len; simp; omega⟩
  rw [w.eq, pthI_nat, pth_eq b.types f (by omega), List.append_assoc]; rfl
theorem Walks.last {b : Base} {f : List Item} {i : Nat} {c : Int} {acc : List Int} (w : Walks b f i c acc) (h : c < 0) : acc = pth b.types f i := by
  rw [w.eq, pthI_neg _ _ h]; rfl
theorem f31 (b : Base) (f : List Item) (hr : Right b f) (i : Nat) (hi : i < f.length) (H : Heap) : cal (evC cprog) true 31 [eBase b, eItems f, .int .i64 (i : Int)] H = some (eIs (pth b.types f i), H) := by
  rw [cal_of at31]
  have hfl := hr.len
  obtain ⟨K, hK⟩ : ∃ K : Heap, K = H ++ [bBase b] := ⟨_, rfl⟩
  have kl : K.length = H.length + 1 := by rw [hK]; simp
  have kt : ∀ Z, (K ++ Z).take H.length = H := fun Z => by rw [hK]; simp
  have kb : ∀ Z, (K ++ Z)[H.length]? = some (bBase b) := fun Z => by rw [hK]; simp
  have L := fun (st : St) (hE : keepEnv st.1 [1, 2, 3, 7] = [(1, eItems f), (2, .int .i64 (i : Int)), (3, .ptr H.length 0 4 0 0), (7, .nils)]) (hH : st.2 = K) (z : Option (CX × St)) (hz : itLim (evCode (evC cprog) itLim c31_l0) st = z) =>
    loop_rule (σ := Int × List Int × Heap × AV) (m := [1, 2, 3, 7]) (env := fun s => [(1, eItems f), (2, .int .i64 s.1), (3, .ptr H.length 0 4 0 0), (7, s.2.2.2)]) (hp := fun s => K ++ s.2.2.1)
    (P := fun _ r => ∃ T X rv, r = (.exit 0, T, K ++ X) ∧ keepEnv T [7] = [(7, rv)] ∧ Out K.length 1 3 X rv ((pth b.types f i).reverse.map rI))
    (mu := fun s => (s.1 + 1).toNat) (I := fun s => Walks b f i s.1 s.2.1 ∧ Out K.length 1 3 s.2.2.1 s.2.2.2 (s.2.1.reverse.map rI)) (evCode (evC cprog) itLim c31_l0) (by
      intro ⟨c, acc, X, rv⟩ ⟨w, hO⟩ E hE
      simp only at w hO hE ⊢
      have h1 := w.lo
      have h2 := w.hi
      have h3 := w.len
      by_cases hc : 0 ≤ c
      · obtain ⟨c, rfl⟩ : ∃ k : Nat, c = (k : Int) := ⟨c.toNat, by omega⟩
        have h102 := fun H => f37 b f hr c (by omega) H
        have w2 := w.step
        obtain ⟨rv1, X1, a1, t1, O1⟩ := (hO.more [⟨0, true, 3, 1, [[.int .i64 (c : Int)]]⟩]).app K rfl 8 (.ref (K.length + X.length) 0 1 0 1) [rI (c : Int)] (by simp [srcRows, rowsOf, curBlk, ← List.append_assoc, rI]) (by simp [rI]) (by simp [reach]; omega)
        have hra : acc.reverse.map rI ++ [rI (c : Int)] = ((c : Int) :: acc).reverse.map rI := by simp
        rw [hra] at O1
        simp only [bBase] at kb
        simp only [eBase] at h102
        have hpl := par_lt b.types f c
        simp only [c31_l0, hE, hc, kb, h102, a1, t1, evX, Int.reduceEq, Int.reduceLT, Int.reduceLE, Nat.reduceMul, Nat.reduceMod, evW, fn_eq, evR, Nat.reduceAdd, Nat.reduceLT, Nat.reduceLeDiff, reduceIte, Nat.reduceEqDiff, reduceCtorEq, argEnv, eq_self, if_true, if_false]
        repeat' ((first | rw [guardK_cases] | rw [condK_bool] | rw [guardD_cases]); split <;> simp only [c31_l0, hE, hc, kb, h102, a1, t1, evX, Int.reduceEq, Int.reduceLT, Int.reduceLE, Nat.reduceMul, Nat.reduceMod, evW, evR, Nat.reduceAdd, Nat.reduceLT, Nat.reduceLeDiff, reduceIte, Nat.reduceEqDiff, reduceCtorEq, argEnv, eq_self, if_true, if_false, *])
        exact q_next (par b.types f c, (c : Int) :: acc, X1, rv1) (by rfl) rfl ⟨w2, O1⟩ (by simp only; omega) fun r h => h
      · simp only [c31_l0, hE, hc, evX, Int.reduceEq, Int.reduceLT, Int.reduceLE, Nat.reduceMul, Nat.reduceMod, evW, fn_eq, evR, Nat.reduceAdd, Nat.reduceLT, Nat.reduceLeDiff, reduceIte, Nat.reduceEqDiff, reduceCtorEq, argEnv, eq_self, if_true, if_false]
        repeat' ((first | rw [guardK_cases] | rw [condK_bool] | rw [guardD_cases]); split <;> simp only [c31_l0, hE, hc, evX, Int.reduceEq, Int.reduceLT, Int.reduceLE, Nat.reduceMul, Nat.reduceMod, evW, evR, Nat.reduceAdd, Nat.reduceLT, Nat.reduceLeDiff, reduceIte, Nat.reduceEqDiff, reduceCtorEq, argEnv, eq_self, if_true, if_false, *])
        rw [w.last (by omega)] at hO
        exact q_exit ⟨_, X, rv, rfl, by rfl, hO⟩) ((i : Int), [], [], .nils) st ⟨⟨by omega, by omega, by rw [pthI_nat, List.append_nil], by simp; omega⟩, .nils ..⟩ hE (by simpa using hH) z hz
  simp only [c31, eBase, evX, Int.reduceEq, Int.reduceLT, Int.reduceLE, Nat.reduceMul, Nat.reduceMod, evW, fn_eq, evR, Nat.reduceAdd, Nat.reduceLT, Nat.reduceLeDiff, reduceIte, Nat.reduceEqDiff, reduceCtorEq, argEnv, eq_self, if_true, if_false]
  repeat' ((first | rw [guardK_cases] | rw [condK_bool] | rw [guardD_cases]); split <;> simp only [c31, eBase, evX, Int.reduceEq, Int.reduceLT, Int.reduceLE, Nat.reduceMul, Nat.reduceMod, evW, evR, Nat.reduceAdd, Nat.reduceLT, Nat.reduceLeDiff, reduceIte, Nat.reduceEqDiff, reduceCtorEq, argEnv, eq_self, if_true, if_false, *])
  generalize hz : itLim _ _ = z
  obtain ⟨_, rfl, T, X, rv, rfl, hT, hO⟩ := L _ (by rfl) (by rw [hK]; rfl) z hz
  clear hz L
  have hne : pth b.types f i ≠ [] := fun e => by have := pth_self b.types f i; rw [e] at this; cases this
  have hpl : (pth b.types f i).length ≤ 1000 := by
    have := anc_len (pts b.types f) i i (Nat.le_refl _)
    have e : (pth b.types f i).length ≤ i + 1 := this
    omega
  have hp0 := List.length_pos_iff.2 hne
  generalize pth b.types f i = l at *
  rcases hO with ⟨h1, _⟩ | ⟨_, j, v, rfl, hXj⟩
  · exact absurd (by simpa using h1) hne
  have hat : (K ++ X)[K.length + j]? = some ⟨v, true, 3, 1, l.reverse.map rI⟩ := by rw [at_app]; exact hXj
  have h103 := f51 (K ++ X) (K.length + j) v l.reverse hat (by simpa using hp0) (by simpa using hpl)
  have hbl := (List.getElem?_eq_some_iff.1 hat).1
  rw [List.reverse_reverse] at h103
  simp only [List.length_reverse] at h103
  simp only [List.length_map, List.length_reverse] at hT
  have hfz : ∃ ids, fz ((K ++ X).set (K.length + j) ⟨v, true, 3, 1, l.map rI⟩) fzDepth (.ref (K.length + j) v 1 0 l.length) = some (eIs l, ids) ∧ ∀ x ∈ ids, x = K.length + j :=
    fz_blk (k := ⟨v, true, 3, 1, l.map rI⟩) (by simp only [curBlk, List.getElem?_set_self hbl]; rfl) (rows := l.map rI) (by show (l.map rI).take l.length = _; rw [List.take_of_length_le (by simp)]) (fun r hr a ha => by
      obtain ⟨x, _, rfl⟩ := List.mem_map.1 hr
      simp only [rI, List.mem_cons, List.not_mem_nil, or_false] at ha
      subst ha; exact ⟨rfl, fun _ _ => rfl⟩) 6
  obtain ⟨ids, g1, g2⟩ := hfz
  have ht : ((K ++ X).set (K.length + j) ⟨v, true, 3, 1, l.map rI⟩).take H.length = H := by rw [List.take_set_of_le (by omega)]; exact kt X
  generalize (K ++ X).set (K.length + j) ⟨v, true, 3, 1, l.map rI⟩ = Z at *
  simp only [hT, h103, evX, Int.reduceEq, Int.reduceLT, Int.reduceLE, Nat.reduceMul, Nat.reduceMod, evW, fn_eq, evR, Nat.reduceAdd, Nat.reduceLT, Nat.reduceLeDiff, reduceIte, Nat.reduceEqDiff, reduceCtorEq, argEnv, eq_self, if_true, if_false]
  repeat' ((first | rw [guardK_cases] | rw [condK_bool] | rw [guardD_cases]); split <;> simp only [hT, h103, evX, Int.reduceEq, Int.reduceLT, Int.reduceLE, Nat.reduceMul, Nat.reduceMod, evW, evR, Nat.reduceAdd, Nat.reduceLT, Nat.reduceLeDiff, reduceIte, Nat.reduceEqDiff, reduceCtorEq, argEnv, eq_self, if_true, if_false, *])
  exact frz_one g1 rfl ht (fun k hk => by have := g2 k hk; omega)
end Go.Proofs.YtondenmkhfignaaDoor.Code

/- plain: full keys, of the program and of the document. -/
set_option linter.unusedSimpArgs false
set_option linter.unusedVariables false
namespace Go.Proofs.YtondenmkhfignaaDoor.Code
open Go.Proofs.YtondenmkhfignaaDoor.Ev

/-- the key of an item -/
def keyA (b : Base) (f : List Item) (k : Int) : ByteArray := keyOf (tyOf b.types (typ f k)) (dat f k)
/-- the keys on the path of an item -/
def fkL (b : Base) (f : List Item) (i : Nat) : List ByteArray := (pth b.types f i).map (keyA b f)
theorem keyOf_size {t : Ty} (ht : tyOk t = true) (d : ByteArray) : (keyOf t d).size ≤ 40 := by
  by_cases h0 : t.key < 0
  · simp only [keyOf, h0, if_true]
    exact Nat.zero_le _
  · obtain ⟨m, k, g1, g2, g3, g4, g5, g6⟩ := key_in ht (by omega)
    have : ¬ (m : Int) < 0 := by omega
    simp only [keyOf, g1, this, if_false, Int.toNat_natCast, g2]
    rw [ByteArray.size_extract]
    omega
theorem fk_at {b : Base} {f : List Item} (hr : Right b f) {i : Nat} (hi : i < f.length) {a : Int} (ha : a ∈ pth b.types f i) :
    ∃ (j : Nat) (x : Item) (k : Nat) (t : Ty), a = (j : Int) ∧ j ≤ i ∧ f[j]? = some x ∧ x.type = (k : Int) ∧ b.types[k]? = some t ∧ tyOk t = true ∧ t.min ≤ x.data.size ∧ keyA b f a = keyOf t x.data := by
  have hb := pth_bound ha
  obtain ⟨j, rfl⟩ : ∃ j : Nat, a = (j : Int) := ⟨a.toNat, by omega⟩
  obtain ⟨x, k, t, h1, h2, h3, h4, h5, h6, _⟩ := hr.item (show j < f.length by omega)
  refine ⟨j, x, k, t, rfl, by omega, h1, h2, h4, h5, h6, ?_⟩
  have hd : dat f (j : Int) = x.data := by simp [dat, h1]
  rw [keyA, typ_at h1, h2, tyOf_at h4, hd]
theorem fk_len {b : Base} {f : List Item} (hr : Right b f) {i : Nat} (hi : i < f.length) : (pth b.types f i).length ≤ 5 := by
  obtain ⟨x, k, t, h1, h2, h3, _⟩ := hr.item hi
  rw [pth_len hr i i (Nat.le_refl _) hi, typ_at h1, h2, Int.toNat_natCast]
  exact (anc_len8 hr h3).1
theorem fk_size {b : Base} {f : List Item} (hr : Right b f) {i : Nat} (hi : i < f.length) : ∀ s ∈ fkL b f i, s.size ≤ 1000 := by
  intro s hs
  obtain ⟨a, ha, rfl⟩ := List.mem_map.1 hs
  obtain ⟨_, x, _, t, _, _, _, _, _, h5, _, h7⟩ := fk_at hr hi ha
  rw [h7]
  have := keyOf_size h5 x.data
  omega
def fkG (b : Base) (f : List Item) (_ : Nat) (a : Int) : List ByteArray := [keyA b f a]
theorem fkG_map (b : Base) (f : List Item) : ∀ (l : List Int) (k : Nat), gath (fkG b f) k l = l.map (keyA b f)
  | [], _ => rfl
  | a :: l, k => by rw [gath, fkG_map b f l (k + 1)]; rfl
theorem out_slS {n ty : Nat} {X : Heap} {rv : AV} {l : List ByteArray} (h : Out n 1 ty X rv (l.map rS)) (H0 : Heap) (hn : n = H0.length) : SlAt (H0 ++ X) 1 rv (l.map rS) := out_slat h H0 hn fun r hr => by obtain ⟨_, _, rfl⟩ := List.mem_map.1 hr; rfl
set_option maxHeartbeats 4000000 in
theorem f34 (b : Base) (f : List Item) (hr : Right b f) (i : Nat) (hi : i < f.length) (H : Heap) : cal (evC cprog) true 34 [eBase b, eItems f, .int .i64 (i : Int)] H = some (eU (keyU (fkL b f i)), H) := by
  rw [cal_of at34]
  have h37 := f31 b f hr i hi
  simp only [eBase] at h37
  have hpl := fk_len hr hi
  have hlen := (sIs [] (pth b.types f i)).len
  simp only [List.length_map] at hlen
  obtain ⟨K, hK⟩ : ∃ K : Heap, K = H ++ [bBase b] := ⟨_, rfl⟩
  have kl : K.length = H.length + 1 := by rw [hK]; simp
  have kt : ∀ Z, (K ++ Z).take H.length = H := fun Z => by rw [hK]; simp
  have kb : ∀ Z, (K ++ Z)[H.length]? = some (bBase b) := fun Z => by rw [hK]; simp
  simp only [bBase] at kb
  have L := fun (st : St) (hE : keepEnv st.1 [1, 3, 7, 13, 14, 15] = [(1, eItems f), (3, .ptr H.length 0 4 0 0), (7, .nils), (13, eIs (pth b.types f i)), (14, .int .i64 ((pth b.types f i).length : Int)), (15, .int .i64 0)]) (hH : st.2 = K) (z : Option (CX × St)) (hz : itLim (evCode (evC cprog) itLim c34_l0) st = z) =>
    gath_rule (pth b.types f i) (fkG b f) rS [1, 3, 7, 13, 14, 15] (fun j rv => [(1, eItems f), (3, .ptr H.length 0 4 0 0), (7, rv), (13, eIs (pth b.types f i)), (14, .int .i64 ((pth b.types f i).length : Int)), (15, .int .i64 (j : Int))]) K 1 9 (evCode (evC cprog) itLim c34_l0) 0 [7] (fun rv => [(7, rv)])
    (fun j a hx E X rv hE hO => by
      have hlt : j < (pth b.types f i).length := (List.getElem?_eq_some_iff.1 hx).1
      have hj : (j : Int) < ((pth b.types f i).length : Int) := by omega
      have hw := wrapS hlt (by omega)
      have hai := aI hx
      obtain ⟨n, x, k, t, rfl, hni, h1, h2, h3, h4, h5, h6⟩ := fk_at hr hi (List.mem_of_getElem? hx)
      have ha := aItem h1
      have hat := aTy h3
      rw [← h2] at hat
      have h48 := f39 t h4 x.data h5
      simp only [rTy] at h48
      have hgl := gath_len (fkG b f) (fun i x => by simp [fkG]) ((pth b.types f i).take j) 0
      rw [List.length_take] at hgl
      obtain ⟨rv1, X1, a1, a2, a3, _⟩ := app_row hO K rfl 16 (rS (keyOf t x.data)) rfl (by simp only [List.length_map, reach]; omega)
      simp only [rS] at a1
      simp only [c34_l0, hE, hj, hai, rI, ha, rItem, hat, rTy, kb, h48, a1, a2, hw, evX, Int.reduceEq, Int.reduceLT, Int.reduceLE, Nat.reduceMul, Nat.reduceMod, evW, fn_eq, evR, Nat.reduceAdd, Nat.reduceLT, Nat.reduceLeDiff, reduceIte, Nat.reduceEqDiff, reduceCtorEq, argEnv, eq_self, if_true, if_false]
      repeat' ((first | rw [guardK_cases] | rw [condK_bool] | rw [guardD_cases]); split <;> simp only [c34_l0, hE, hj, hai, rI, ha, rItem, hat, rTy, kb, h48, a1, a2, hw, evX, Int.reduceEq, Int.reduceLT, Int.reduceLE, Nat.reduceMul, Nat.reduceMod, evW, evR, Nat.reduceAdd, Nat.reduceLT, Nat.reduceLeDiff, reduceIte, Nat.reduceEqDiff, reduceCtorEq, argEnv, eq_self, if_true, if_false, *])
      exact ⟨_, _, _, rfl, by rfl, by simpa [fkG, h6, rS] using a3⟩)
    (fun E X rv hE => by
      simp only [c34_l0, hE, Int.lt_irrefl, evX, Int.reduceEq, Int.reduceLT, Int.reduceLE, Nat.reduceMul, Nat.reduceMod, evW, fn_eq, evR, Nat.reduceAdd, Nat.reduceLT, Nat.reduceLeDiff, reduceIte, Nat.reduceEqDiff, reduceCtorEq, argEnv, eq_self, if_true, if_false]
      repeat' ((first | rw [guardK_cases] | rw [condK_bool] | rw [guardD_cases]); split <;> simp only [c34_l0, hE, Int.lt_irrefl, evX, Int.reduceEq, Int.reduceLT, Int.reduceLE, Nat.reduceMul, Nat.reduceMod, evW, evR, Nat.reduceAdd, Nat.reduceLT, Nat.reduceLeDiff, reduceIte, Nat.reduceEqDiff, reduceCtorEq, argEnv, eq_self, if_true, if_false, *])
      exact ⟨_, rfl, by rfl⟩) st [] .nils (.nils ..) hE (by simpa using hH) z hz
  simp only [c34, eBase, h37, hlen, evX, Int.reduceEq, Int.reduceLT, Int.reduceLE, Nat.reduceMul, Nat.reduceMod, evW, fn_eq, evR, Nat.reduceAdd, Nat.reduceLT, Nat.reduceLeDiff, reduceIte, Nat.reduceEqDiff, reduceCtorEq, argEnv, eq_self, if_true, if_false]
  repeat' ((first | rw [guardK_cases] | rw [condK_bool] | rw [guardD_cases]); split <;> simp only [c34, eBase, h37, hlen, evX, Int.reduceEq, Int.reduceLT, Int.reduceLE, Nat.reduceMul, Nat.reduceMod, evW, evR, Nat.reduceAdd, Nat.reduceLT, Nat.reduceLeDiff, reduceIte, Nat.reduceEqDiff, reduceCtorEq, argEnv, eq_self, if_true, if_false, *])
  generalize hz : itLim _ _ = z
  obtain ⟨T, X, rv, rfl, hT, hO⟩ := L _ (by rfl) (by rw [hK]; rfl) z hz
  clear hz L
  rw [fkG_map] at hO
  have h49 := f54 rv (fkL b f i) (by simp only [fkL, List.length_map]; omega) (fk_size hr hi) (K ++ X) (out_slS hO K rfl)
  have ht := kt X
  have hsc := out_tup hO
  generalize K ++ X = Z at *
  simp only [hT, hsc, h49, evX, Int.reduceEq, Int.reduceLT, Int.reduceLE, Nat.reduceMul, Nat.reduceMod, evW, fn_eq, evR, Nat.reduceAdd, Nat.reduceLT, Nat.reduceLeDiff, reduceIte, Nat.reduceEqDiff, reduceCtorEq, argEnv, eq_self, if_true, if_false]
  repeat' ((first | rw [guardK_cases] | rw [condK_bool] | rw [guardD_cases]); split <;> simp only [hT, hsc, h49, evX, Int.reduceEq, Int.reduceLT, Int.reduceLE, Nat.reduceMul, Nat.reduceMod, evW, evR, Nat.reduceAdd, Nat.reduceLT, Nat.reduceLeDiff, reduceIte, Nat.reduceEqDiff, reduceCtorEq, argEnv, eq_self, if_true, if_false, *])
  exact frz_one (ids := []) rfl rfl ht (by simp)
end Go.Proofs.YtondenmkhfignaaDoor.Code

/- slices.DeleteFunc on a slice of numbers of its own; children as a slice that may be written. -/
set_option linter.unusedSimpArgs false
set_option linter.unusedVariables false
namespace Go.Proofs.YtondenmkhfignaaDoor.Code
open Go.Proofs.YtondenmkhfignaaDoor.Ev

/-- what is kept of the first ones, and what stands behind them as it stood -/
structure Del (l : List Int) (p : Int → Bool) (j i : Nat) (els : List (List AV)) : Prop where
  lt : i < j
  le : j ≤ l.length
  len : els.length = l.length
  num : i = ((l.take j).filter fun x => !p x).length
  kept : els.take i = ((l.take j).filter fun x => !p x).map rI
  rest : ∀ k, j ≤ k → els[k]? = (l.map rI)[k]?
  one : ∀ (k : Nat) (r : List AV), els[k]? = some r → ∃ y, r = [y]
theorem Del.keep {l : List Int} {p : Int → Bool} {j i : Nat} {els : List (List AV)} (D : Del l p j i els) {x : Int} (hx : l[j]? = some x) (hp : p x = false) : Del l p (j + 1) (i + 1) (els.set i [.int .i64 x]) := by
  have hlt := (List.getElem?_eq_some_iff.1 hx).1
  have h1 := D.lt
  have h2 := D.len
  have e : (l.take (j + 1)).filter (fun x => !p x) = ((l.take j).filter fun x => !p x) ++ [x] := by
    rw [List.take_add_one, hx, Option.toList_some, List.filter_append]; simp [hp]
  refine ⟨by omega, by omega, by simpa using h2, by rw [e, List.length_append, ← D.num]; rfl, ?_, fun k hk => ?_, fun k r hr => ?_⟩
  · rw [e, List.map_append, ← D.kept, List.take_add_one, List.getElem?_set_self (by omega), Option.toList_some, List.take_set_of_le (Nat.le_refl _)]; rfl
  · rw [List.getElem?_set_ne (by omega)]
    exact D.rest k (by omega)
  · by_cases hk : i = k
    · subst hk
      rw [List.getElem?_set_self (by omega)] at hr
      cases hr; exact ⟨_, rfl⟩
    · rw [List.getElem?_set_ne hk] at hr
      exact D.one k r hr
end Go.Proofs.YtondenmkhfignaaDoor.Code

/- plain: Parent, End, Path and FullKey, of the program and of the document. -/
set_option linter.unusedSimpArgs false
set_option linter.unusedVariables false
namespace Go.Proofs.YtondenmkhfignaaDoor.Code
open Go.Proofs.YtondenmkhfignaaDoor.Ev

theorem right_err {b : Base} {f : List Item} (R : Right b f) {i : Nat} (hi : i < f.length) : errF b f [(i : Int)] = 0 := by
  unfold errF
  rw [if_pos R.valid, if_pos R.forest, if_neg]
  simp [outOf]
  omega
theorem errF_at {b : Base} (hb : b.Ok) {f : List Item} {i : Int} (he : errF b f [i] = 0) : Right b f ∧ ∃ j : Nat, i = (j : Int) ∧ j < f.length := by
  obtain ⟨hr, ho⟩ := errF_zero hb he
  obtain ⟨h0, h1⟩ := ho i (by simp)
  exact ⟨hr, i.toNat, by omega, by omega⟩
noncomputable def endV (b : Base) (f : List Item) (i : Int) : Int := if errF b f [i] = 0 then (endOf b.types f i.toNat : Int) else 0
noncomputable def pthV (b : Base) (f : List Item) (i : Int) : List Int := if errF b f [i] = 0 then pth b.types f i.toNat else []
noncomputable def keyV (b : Base) (f : List Item) (i : Int) : List UInt8 := if errF b f [i] = 0 then keyU (fkL b f i.toNat) else []
theorem f10 (b : Base) (hb : b.Ok) (f : List Item) (hfl : f.length < 9223372036854775807) (i : Int) (H : Heap) : cal (evC cprog) false 10 [eBase b, eItems f, .int .i64 i] H = some (.tup [.int .i64 (endV b f i), .int .i64 (errF b f [i])], H) := by
  rw [cal_of at10]
  have h26 := f30 b hb f (.ref (H.length + 1) 0 1 0 1) rfl [i] (by simp) (H ++ [bBase b, bI i]) (one_slat H i [bBase b])
  simp only [eBase, bBase, bI] at h26
  by_cases he : errF b f [i] = 0
  · obtain ⟨hr, j, rfl, hj⟩ := errF_at hb he
    have hc := fun K => f32 b f hr j hj K
    simp only [eBase] at hc
    have hv : endV b f (j : Int) = _ := if_pos he
    rw [Int.toNat_natCast] at hv
    rw [hv, he]
    rw [he] at h26
    simp only [c10, eBase, h26, hc, evX, Int.reduceEq, Int.reduceLT, Int.reduceLE, Nat.reduceMul, Nat.reduceMod, evW, fn_eq, evR, Nat.reduceAdd, Nat.reduceLT, Nat.reduceLeDiff, reduceIte, Nat.reduceEqDiff, reduceCtorEq, argEnv, eq_self, if_true, if_false]
    repeat' ((first | rw [guardK_cases] | rw [condK_bool] | rw [guardD_cases]); split <;> simp only [c10, eBase, h26, hc, evX, Int.reduceEq, Int.reduceLT, Int.reduceLE, Nat.reduceMul, Nat.reduceMod, evW, evR, Nat.reduceAdd, Nat.reduceLT, Nat.reduceLeDiff, reduceIte, Nat.reduceEqDiff, reduceCtorEq, argEnv, eq_self, if_true, if_false, *])
  · have hv : endV b f i = 0 := if_neg he
    rw [hv]
    simp only [c10, eBase, h26, he, evX, Int.reduceEq, Int.reduceLT, Int.reduceLE, Nat.reduceMul, Nat.reduceMod, evW, fn_eq, evR, Nat.reduceAdd, Nat.reduceLT, Nat.reduceLeDiff, reduceIte, Nat.reduceEqDiff, reduceCtorEq, argEnv, eq_self, if_true, if_false]
    repeat' ((first | rw [guardK_cases] | rw [condK_bool] | rw [guardD_cases]); split <;> simp only [c10, eBase, h26, he, evX, Int.reduceEq, Int.reduceLT, Int.reduceLE, Nat.reduceMul, Nat.reduceMod, evW, evR, Nat.reduceAdd, Nat.reduceLT, Nat.reduceLeDiff, reduceIte, Nat.reduceEqDiff, reduceCtorEq, argEnv, eq_self, if_true, if_false, *])
theorem f9 (b : Base) (hb : b.Ok) (f : List Item) (hfl : f.length < 9223372036854775807) (i : Int) (H : Heap) : cal (evC cprog) true 9 [eBase b, eItems f, .int .i64 i] H = some (.tup [eIs (pthV b f i), .int .i64 (errF b f [i])], H) := by
  rw [cal_of at9]
  have h26 := f30 b hb f (.ref (H.length + 1) 0 1 0 1) rfl [i] (by simp) (H ++ [bBase b, bI i]) (one_slat H i [bBase b])
  simp only [eBase, bBase, bI] at h26
  by_cases he : errF b f [i] = 0
  · obtain ⟨hr, j, rfl, hj⟩ := errF_at hb he
    have hc := fun K => f31 b f hr j hj K
    simp only [eBase] at hc
    have hv : pthV b f (j : Int) = _ := if_pos he
    rw [Int.toNat_natCast] at hv
    rw [hv, he]
    rw [he] at h26
    simp only [c9, eBase, h26, hc, evX, Int.reduceEq, Int.reduceLT, Int.reduceLE, Nat.reduceMul, Nat.reduceMod, evW, fn_eq, evR, Nat.reduceAdd, Nat.reduceLT, Nat.reduceLeDiff, reduceIte, Nat.reduceEqDiff, reduceCtorEq, argEnv, eq_self, if_true, if_false]
    repeat' ((first | rw [guardK_cases] | rw [condK_bool] | rw [guardD_cases]); split <;> simp only [c9, eBase, h26, hc, evX, Int.reduceEq, Int.reduceLT, Int.reduceLE, Nat.reduceMul, Nat.reduceMod, evW, evR, Nat.reduceAdd, Nat.reduceLT, Nat.reduceLeDiff, reduceIte, Nat.reduceEqDiff, reduceCtorEq, argEnv, eq_self, if_true, if_false, *])
    exact frz_two (ids := []) rfl rfl (by simp) (by simp) _ _
  · have hv : pthV b f i = [] := if_neg he
    rw [hv]
    simp only [c9, eBase, h26, he, evX, Int.reduceEq, Int.reduceLT, Int.reduceLE, Nat.reduceMul, Nat.reduceMod, evW, fn_eq, evR, Nat.reduceAdd, Nat.reduceLT, Nat.reduceLeDiff, reduceIte, Nat.reduceEqDiff, reduceCtorEq, argEnv, eq_self, if_true, if_false]
    repeat' ((first | rw [guardK_cases] | rw [condK_bool] | rw [guardD_cases]); split <;> simp only [c9, eBase, h26, he, evX, Int.reduceEq, Int.reduceLT, Int.reduceLE, Nat.reduceMul, Nat.reduceMod, evW, evR, Nat.reduceAdd, Nat.reduceLT, Nat.reduceLeDiff, reduceIte, Nat.reduceEqDiff, reduceCtorEq, argEnv, eq_self, if_true, if_false, *])
    exact frz_two (fz_nils _) rfl (by simp) (by simp) _ _
theorem f13 (b : Base) (hb : b.Ok) (f : List Item) (hfl : f.length < 9223372036854775807) (i : Int) (H : Heap) : cal (evC cprog) true 13 [eBase b, eItems f, .int .i64 i] H = some (.tup [eU (keyV b f i), .int .i64 (errF b f [i])], H) := by
  rw [cal_of at13]
  have h26 := f30 b hb f (.ref (H.length + 1) 0 1 0 1) rfl [i] (by simp) (H ++ [bBase b, bI i]) (one_slat H i [bBase b])
  simp only [eBase, bBase, bI] at h26
  by_cases he : errF b f [i] = 0
  · obtain ⟨hr, j, rfl, hj⟩ := errF_at hb he
    have hc := fun K => f34 b f hr j hj K
    simp only [eBase] at hc
    have hv : keyV b f (j : Int) = _ := if_pos he
    rw [Int.toNat_natCast] at hv
    rw [hv, he]
    rw [he] at h26
    simp only [c13, eBase, h26, hc, evX, Int.reduceEq, Int.reduceLT, Int.reduceLE, Nat.reduceMul, Nat.reduceMod, evW, fn_eq, evR, Nat.reduceAdd, Nat.reduceLT, Nat.reduceLeDiff, reduceIte, Nat.reduceEqDiff, reduceCtorEq, argEnv, eq_self, if_true, if_false]
    repeat' ((first | rw [guardK_cases] | rw [condK_bool] | rw [guardD_cases]); split <;> simp only [c13, eBase, h26, hc, evX, Int.reduceEq, Int.reduceLT, Int.reduceLE, Nat.reduceMul, Nat.reduceMod, evW, evR, Nat.reduceAdd, Nat.reduceLT, Nat.reduceLeDiff, reduceIte, Nat.reduceEqDiff, reduceCtorEq, argEnv, eq_self, if_true, if_false, *])
    exact frz_two (ids := []) rfl rfl (by simp) (by simp) _ _
  · have hv : keyV b f i = [] := if_neg he
    rw [hv]
    simp only [c13, eBase, h26, he, evX, Int.reduceEq, Int.reduceLT, Int.reduceLE, Nat.reduceMul, Nat.reduceMod, evW, fn_eq, evR, Nat.reduceAdd, Nat.reduceLT, Nat.reduceLeDiff, reduceIte, Nat.reduceEqDiff, reduceCtorEq, argEnv, eq_self, if_true, if_false]
    repeat' ((first | rw [guardK_cases] | rw [condK_bool] | rw [guardD_cases]); split <;> simp only [c13, eBase, h26, he, evX, Int.reduceEq, Int.reduceLT, Int.reduceLE, Nat.reduceMul, Nat.reduceMod, evW, evR, Nat.reduceAdd, Nat.reduceLT, Nat.reduceLeDiff, reduceIte, Nat.reduceEqDiff, reduceCtorEq, argEnv, eq_self, if_true, if_false, *])
    exact frz_two (fz_nils _) rfl (by simp) (by simp) _ _
end Go.Proofs.YtondenmkhfignaaDoor.Code

/- plain: children as a slice that may be written; Children of the program. -/
set_option linter.unusedSimpArgs false
set_option linter.unusedVariables false
namespace Go.Proofs.YtondenmkhfignaaDoor.Code
open Go.Proofs.YtondenmkhfignaaDoor.Ev

end Go.Proofs.YtondenmkhfignaaDoor.Code

/- plain: Children and Roots, of the program. -/
set_option linter.unusedSimpArgs false
set_option linter.unusedVariables false
namespace Go.Proofs.YtondenmkhfignaaDoor.Code
open Go.Proofs.YtondenmkhfignaaDoor.Ev

end Go.Proofs.YtondenmkhfignaaDoor.Code

/- plain: the document's Children; Roots of both; lists of numbers that are the same. -/
set_option linter.unusedSimpArgs false
set_option linter.unusedVariables false
namespace Go.Proofs.YtondenmkhfignaaDoor.Code
open Go.Proofs.YtondenmkhfignaaDoor.Ev

end Go.Proofs.YtondenmkhfignaaDoor.Code

/- The law PlainWays is true. -/
set_option linter.unusedSimpArgs false
set_option linter.unusedVariables false
namespace Go.Proofs.YtondenmkhfignaaDoor.Code
open Go.Proofs.YtondenmkhfignaaDoor.Ev

end Go.Proofs.YtondenmkhfignaaDoor.Code
namespace Go.Proofs.YtondenmkhfignaaDoor.Pure
open Go.Proofs.YtondenmkhfignaaDoor.Ev Go.Proofs.YtondenmkhfignaaDoor.Code
end Go.Proofs.YtondenmkhfignaaDoor.Pure

/- plain: keys compared; Find of the program and of the document. -/
set_option linter.unusedSimpArgs false
set_option linter.unusedVariables false
namespace Go.Proofs.YtondenmkhfignaaDoor.Code
open Go.Proofs.YtondenmkhfignaaDoor.Ev

theorem zip_at {α β : Type} {a : List α} {b : List β} {i : Nat} {z : α × β} (h : (a.zip b)[i]? = some z) : a[i]? = some z.1 ∧ b[i]? = some z.2 := by
  have := List.getElem?_zip_eq_some.1 h
  exact this
theorem u8_cast {x y : UInt8} : (x.toNat : Int) = (y.toNat : Int) ↔ x = y := by
  rw [Int.ofNat_inj]; exact UInt8.toNat_inj
theorem zip_all {a b : List UInt8} (hl : a.length = b.length) : (a.zip b).all (fun z => decide (z.1 = z.2)) = decide (a = b) := by
  induction a generalizing b with
  | nil => cases b with
    | nil => rfl
    | cons => simp at hl
  | cons x a ih => cases b with
    | nil => simp at hl
    | cons y b =>
      simp only [List.zip_cons_cons, List.all_cons, List.cons.injEq]
      rw [ih (by simpa using hl), Bool.decide_and]
theorem f35 (a b : List UInt8) (ha : a.length < 9223372036854775807) (H : Heap) : cal (evC cprog) false 35 [eU a, eU b] H = some (.bool (decide (a = b)), H) := by
  rw [cal_of at35]
  have la := (sU [] a).len
  have lb := (sU [] b).len
  simp only [List.length_map] at la lb
  by_cases hl : a.length = b.length
  · have hl' : (a.length : Int) = (b.length : Int) := by omega
    have hz0 : (a.zip b).length = b.length := by rw [List.length_zip]; omega
    simp only [c35, la, lb, hl', evX, Int.reduceEq, Int.reduceLT, Int.reduceLE, Nat.reduceMul, Nat.reduceMod, evW, fn_eq, evR, Nat.reduceAdd, Nat.reduceLT, Nat.reduceLeDiff, reduceIte, Nat.reduceEqDiff, reduceCtorEq, argEnv, eq_self, if_true, if_false]
    repeat' ((first | rw [guardK_cases] | rw [condK_bool] | rw [guardD_cases]); split <;> simp only [c35, la, lb, hl', evX, Int.reduceEq, Int.reduceLT, Int.reduceLE, Nat.reduceMul, Nat.reduceMod, evW, evR, Nat.reduceAdd, Nat.reduceLT, Nat.reduceLeDiff, reduceIte, Nat.reduceEqDiff, reduceCtorEq, argEnv, eq_self, if_true, if_false, *])
    generalize hz : itLim _ _ = z
    have L := all_rule (a.zip b) (fun z => decide (z.1 = z.2)) [0, 1, 12, 13] (fun i => [(0, eU a), (1, eU b), (12, .int .i64 (b.length : Int)), (13, .int .i64 (i : Int))]) H [] (evCode (evC cprog) itLim c35_l0) (fun c T => c = .exit 0) (fun c T => c = .ret ∧ get T 4 = some (.bool false))
      (fun i z hx E G hE => by
        have hlt : i < (a.zip b).length := (List.getElem?_eq_some_iff.1 hx).1
        have hi : (i : Int) < (b.length : Int) := by omega
        obtain ⟨h1, h2⟩ := zip_at hx
        have a1 := aU h1
        have a2 := aU h2
        have hw := wrapS (i := i) (n := b.length) (by omega) (by omega)
        by_cases h : z.1 = z.2
        · have h' : (z.1.toNat : Int) = (z.2.toNat : Int) := u8_cast.2 h
          simp only [c35_l0, hE, hi, a1, a2, rU, h', hw, evX, Int.reduceEq, Int.reduceLT, Int.reduceLE, Nat.reduceMul, Nat.reduceMod, evW, fn_eq, evR, Nat.reduceAdd, Nat.reduceLT, Nat.reduceLeDiff, reduceIte, Nat.reduceEqDiff, reduceCtorEq, argEnv, eq_self, if_true, if_false]
          repeat' ((first | rw [guardK_cases] | rw [condK_bool] | rw [guardD_cases]); split <;> simp only [c35_l0, hE, hi, a1, a2, rU, h', hw, evX, Int.reduceEq, Int.reduceLT, Int.reduceLE, Nat.reduceMul, Nat.reduceMod, evW, evR, Nat.reduceAdd, Nat.reduceLT, Nat.reduceLeDiff, reduceIte, Nat.reduceEqDiff, reduceCtorEq, argEnv, eq_self, if_true, if_false, *])
          exact Sc.next (by simp [h]) (by rfl)
        · have h' : ¬ (z.1.toNat : Int) = (z.2.toNat : Int) := fun e => h (u8_cast.1 e)
          simp only [c35_l0, hE, hi, a1, a2, rU, h', evX, Int.reduceEq, Int.reduceLT, Int.reduceLE, Nat.reduceMul, Nat.reduceMod, evW, fn_eq, evR, Nat.reduceAdd, Nat.reduceLT, Nat.reduceLeDiff, reduceIte, Nat.reduceEqDiff, reduceCtorEq, argEnv, eq_self, if_true, if_false]
          repeat' ((first | rw [guardK_cases] | rw [condK_bool] | rw [guardD_cases]); split <;> simp only [c35_l0, hE, hi, a1, a2, rU, h', evX, Int.reduceEq, Int.reduceLT, Int.reduceLE, Nat.reduceMul, Nat.reduceMod, evW, evR, Nat.reduceAdd, Nat.reduceLT, Nat.reduceLeDiff, reduceIte, Nat.reduceEqDiff, reduceCtorEq, argEnv, eq_self, if_true, if_false, *])
          exact Sc.ret (by simp [h]) ⟨rfl, rfl⟩)
      (fun E G hE => by
        rw [hz0] at hE
        simp only [c35_l0, hE, Int.lt_irrefl, evX, Int.reduceEq, Int.reduceLT, Int.reduceLE, Nat.reduceMul, Nat.reduceMod, evW, fn_eq, evR, Nat.reduceAdd, Nat.reduceLT, Nat.reduceLeDiff, reduceIte, Nat.reduceEqDiff, reduceCtorEq, argEnv, eq_self, if_true, if_false]
        repeat' ((first | rw [guardK_cases] | rw [condK_bool] | rw [guardD_cases]); split <;> simp only [c35_l0, hE, Int.lt_irrefl, evX, Int.reduceEq, Int.reduceLT, Int.reduceLE, Nat.reduceMul, Nat.reduceMod, evW, evR, Nat.reduceAdd, Nat.reduceLT, Nat.reduceLeDiff, reduceIte, Nat.reduceEqDiff, reduceCtorEq, argEnv, eq_self, if_true, if_false, *])
        exact .exit (K := []) rfl) _ [] (by rfl) (by simp) z hz
    rw [zip_all hl] at L
    rcases L with ⟨h, c, T, G, rfl, _, rfl⟩ | ⟨h, c, T, G, rfl, _, rfl, hT⟩
    · simp only [h, evX, Int.reduceEq, Int.reduceLT, Int.reduceLE, Nat.reduceMul, Nat.reduceMod, evW, fn_eq, evR, Nat.reduceAdd, Nat.reduceLT, Nat.reduceLeDiff, reduceIte, Nat.reduceEqDiff, reduceCtorEq, argEnv, eq_self, if_true, if_false]
      repeat' ((first | rw [guardK_cases] | rw [condK_bool] | rw [guardD_cases]); split <;> simp only [h, evX, Int.reduceEq, Int.reduceLT, Int.reduceLE, Nat.reduceMul, Nat.reduceMod, evW, evR, Nat.reduceAdd, Nat.reduceLT, Nat.reduceLeDiff, reduceIte, Nat.reduceEqDiff, reduceCtorEq, argEnv, eq_self, if_true, if_false, *])
    · simp only [h, hT, evX, Int.reduceEq, Int.reduceLT, Int.reduceLE, Nat.reduceMul, Nat.reduceMod, evW, fn_eq, evR, Nat.reduceAdd, Nat.reduceLT, Nat.reduceLeDiff, reduceIte, Nat.reduceEqDiff, reduceCtorEq, argEnv, eq_self, if_true, if_false]
      repeat' ((first | rw [guardK_cases] | rw [condK_bool] | rw [guardD_cases]); split <;> simp only [h, hT, evX, Int.reduceEq, Int.reduceLT, Int.reduceLE, Nat.reduceMul, Nat.reduceMod, evW, evR, Nat.reduceAdd, Nat.reduceLT, Nat.reduceLeDiff, reduceIte, Nat.reduceEqDiff, reduceCtorEq, argEnv, eq_self, if_true, if_false, *])
  · have hl' : ¬ (a.length : Int) = (b.length : Int) := by omega
    have : ¬ a = b := fun e => hl (by rw [e])
    rw [decide_eq_false this]
    simp only [c35, la, lb, hl', evX, Int.reduceEq, Int.reduceLT, Int.reduceLE, Nat.reduceMul, Nat.reduceMod, evW, fn_eq, evR, Nat.reduceAdd, Nat.reduceLT, Nat.reduceLeDiff, reduceIte, Nat.reduceEqDiff, reduceCtorEq, argEnv, eq_self, if_true, if_false]
    repeat' ((first | rw [guardK_cases] | rw [condK_bool] | rw [guardD_cases]); split <;> simp only [c35, la, lb, hl', evX, Int.reduceEq, Int.reduceLT, Int.reduceLE, Nat.reduceMul, Nat.reduceMod, evW, evR, Nat.reduceAdd, Nat.reduceLT, Nat.reduceLeDiff, reduceIte, Nat.reduceEqDiff, reduceCtorEq, argEnv, eq_self, if_true, if_false, *])
end Go.Proofs.YtondenmkhfignaaDoor.Code

/- plain: Find of the program and of the document. -/
set_option linter.unusedSimpArgs false
set_option linter.unusedVariables false
namespace Go.Proofs.YtondenmkhfignaaDoor.Code
open Go.Proofs.YtondenmkhfignaaDoor.Ev

def findG (b : Base) (f : List Item) (q : List UInt8) (t : Int) (i : Nat) (x : Item) : List Int := if x.type = t ∧ keyU (fkL b f i) = q then [(i : Int)] else []
def findL (b : Base) (f : List Item) (q : List UInt8) (t : Int) : List Int := gath (findG b f q t) 0 f
noncomputable def findE (b : Base) (f : List Item) (t : Int) : Int := if errF b f [] = 0 then (if 0 ≤ t ∧ t < (b.types.length : Int) then 0 else 2) else errF b f []
noncomputable def findV (b : Base) (f : List Item) (q : List UInt8) (t : Int) : List Int := if findE b f t = 0 then findL b f q t else []
theorem findG_len (b : Base) (f : List Item) (q : List UInt8) (t : Int) (l : List Item) : (gath (findG b f q t) 0 l).length ≤ l.length := gath_len _ (fun i x => by unfold findG; split <;> simp) l 0
theorem keyU_small {b : Base} {f : List Item} (hr : Right b f) {i : Nat} (hi : i < f.length) : (keyU (fkL b f i)).length ≤ 20000 := by
  have h1 := keyG_len (fkL b f i) (fk_size hr hi) 0
  have h2 := fk_len hr hi
  simp only [fkL, List.length_map] at h1
  show (gath keyG 0 (fkL b f i)).length ≤ 20000
  simp only [fkL]
  omega
set_option maxHeartbeats 8000000 in
theorem f14 (b : Base) (hb : b.Ok) (f : List Item) (q : List UInt8) (t : Int) (H : Heap) : cal (evC cprog) true 14 [eBase b, eItems f, eU q, .int .i64 t] H = some (.tup [eIs (findV b f q t), .int .i64 (findE b f t)], H) := by
  rw [cal_of at14]
  have h26 := fun K => f30 b hb f .nils rfl [] (by simp) K (nil_slat K)
  have hlt := (sTys [] b.types).len
  have hlf := (sItems [] f).len
  simp only [List.length_map] at hlt hlf
  simp only [eBase] at h26
  by_cases he : errF b f [] = 0
  case neg =>
    have e1 : findE b f t = errF b f [] := if_neg he
    have e2 : findV b f q t = [] := if_neg (by rw [e1]; exact he)
    rw [e1, e2]
    simp only [c14, eBase, h26, he, evX, Int.reduceEq, Int.reduceLT, Int.reduceLE, Nat.reduceMul, Nat.reduceMod, evW, fn_eq, evR, Nat.reduceAdd, Nat.reduceLT, Nat.reduceLeDiff, reduceIte, Nat.reduceEqDiff, reduceCtorEq, argEnv, eq_self, if_true, if_false]
    repeat' ((first | rw [guardK_cases] | rw [condK_bool] | rw [guardD_cases]); split <;> simp only [c14, eBase, h26, he, evX, Int.reduceEq, Int.reduceLT, Int.reduceLE, Nat.reduceMul, Nat.reduceMod, evW, evR, Nat.reduceAdd, Nat.reduceLT, Nat.reduceLeDiff, reduceIte, Nat.reduceEqDiff, reduceCtorEq, argEnv, eq_self, if_true, if_false, *])
    exact frz_two (fz_nils _) rfl (by simp) (by simp) _ _
  have hr := (errF_zero hb he).1
  have hfr := hr.len
  rw [he] at h26
  by_cases t0 : t < 0
  · have e1 : findE b f t = 2 := by unfold findE; rw [if_pos he, if_neg (by omega)]
    have e2 : findV b f q t = [] := if_neg (by rw [e1]; simp)
    rw [e1, e2]
    simp only [c14, eBase, h26, t0, evX, Int.reduceEq, Int.reduceLT, Int.reduceLE, Nat.reduceMul, Nat.reduceMod, evW, fn_eq, evR, Nat.reduceAdd, Nat.reduceLT, Nat.reduceLeDiff, reduceIte, Nat.reduceEqDiff, reduceCtorEq, argEnv, eq_self, if_true, if_false]
    repeat' ((first | rw [guardK_cases] | rw [condK_bool] | rw [guardD_cases]); split <;> simp only [c14, eBase, h26, t0, evX, Int.reduceEq, Int.reduceLT, Int.reduceLE, Nat.reduceMul, Nat.reduceMod, evW, evR, Nat.reduceAdd, Nat.reduceLT, Nat.reduceLeDiff, reduceIte, Nat.reduceEqDiff, reduceCtorEq, argEnv, eq_self, if_true, if_false, *])
    all_goals exact frz_two (fz_nils _) rfl (by simp) (by simp) _ _
  by_cases t1 : (b.types.length : Int) ≤ t
  · have e1 : findE b f t = 2 := by unfold findE; rw [if_pos he, if_neg (by omega)]
    have e2 : findV b f q t = [] := if_neg (by rw [e1]; simp)
    rw [e1, e2]
    simp only [c14, eBase, h26, t0, t1, hlt, evX, Int.reduceEq, Int.reduceLT, Int.reduceLE, Nat.reduceMul, Nat.reduceMod, evW, fn_eq, evR, Nat.reduceAdd, Nat.reduceLT, Nat.reduceLeDiff, reduceIte, Nat.reduceEqDiff, reduceCtorEq, argEnv, eq_self, if_true, if_false]
    repeat' ((first | rw [guardK_cases] | rw [condK_bool] | rw [guardD_cases]); split <;> simp only [c14, eBase, h26, t0, t1, hlt, evX, Int.reduceEq, Int.reduceLT, Int.reduceLE, Nat.reduceMul, Nat.reduceMod, evW, evR, Nat.reduceAdd, Nat.reduceLT, Nat.reduceLeDiff, reduceIte, Nat.reduceEqDiff, reduceCtorEq, argEnv, eq_self, if_true, if_false, *])
    all_goals exact frz_two (fz_nils _) rfl (by simp) (by simp) _ _
  have e1 : findE b f t = 0 := by unfold findE; rw [if_pos he, if_pos (by omega)]
  have e2 : findV b f q t = findL b f q t := if_pos e1
  rw [e1, e2]
  obtain ⟨K, hK⟩ : ∃ K : Heap, K = H ++ [bBase b] := ⟨_, rfl⟩
  have kl : K.length = H.length + 1 := by rw [hK]; simp
  have kt : ∀ Z, (K ++ Z).take H.length = H := fun Z => by rw [hK]; simp
  have kb : ∀ Z, (K ++ Z)[H.length]? = some (bBase b) := fun Z => by rw [hK]; simp
  simp only [bBase] at kb
  have L := fun (st : St) (hE : keepEnv st.1 [1, 2, 3, 4, 11, 31, 32, 33] = [(1, eItems f), (2, eU q), (3, .int .i64 t), (4, .ptr H.length 0 4 0 0), (11, .nils), (31, eItems f), (32, .int .i64 (f.length : Int)), (33, .int .i64 0)]) (hH : st.2 = K) (z : Option (CX × St)) (hz : itLim (evCode (evC cprog) itLim c14_l0) st = z) =>
    gath_rule f (findG b f q t) rI [1, 2, 3, 4, 11, 31, 32, 33] (fun j rv => [(1, eItems f), (2, eU q), (3, .int .i64 t), (4, .ptr H.length 0 4 0 0), (11, rv), (31, eItems f), (32, .int .i64 (f.length : Int)), (33, .int .i64 (j : Int))]) K 1 3 (evCode (evC cprog) itLim c14_l0) 1 [11] (fun rv => [(11, rv)])
    (fun j x hx E X rv hE hO => by
      have hjl : j < f.length := (List.getElem?_eq_some_iff.1 hx).1
      have hj : (j : Int) < (f.length : Int) := by omega
      have hw := wrapS hjl (by omega)
      have ha := aItem hx
      have hO1 := hO.more [⟨0, true, 46, 2, [rItem x]⟩]
      have hgl := findG_len b f q t (f.take j)
      rw [List.length_take] at hgl
      by_cases ht : x.type = t
      · have h28 := fun Z => f34 b f hr j hjl Z
        have h27 := fun Z => f35 (keyU (fkL b f j)) q (by have := keyU_small hr hjl; omega) Z
        simp only [eBase] at h28
        by_cases hk : keyU (fkL b f j) = q
        · have hg : findG b f q t j x = [(j : Int)] := if_pos ⟨ht, hk⟩
          rw [decide_eq_true hk] at h27
          obtain ⟨rv1, X1, a1, a2, a3⟩ := app_int hO1 K rfl (by omega) (j : Int)
          simp only [List.append_assoc, List.cons_append, List.nil_append, rItem, ht, List.length_append, List.length_cons, List.length_nil, Nat.zero_add] at a1
          simp only [c14_l0, hE, hj, ha, rItem, ht, kb, h28, h27, a1, a2, hw, evX, Int.reduceEq, Int.reduceLT, Int.reduceLE, Nat.reduceMul, Nat.reduceMod, evW, fn_eq, evR, Nat.reduceAdd, Nat.reduceLT, Nat.reduceLeDiff, reduceIte, Nat.reduceEqDiff, reduceCtorEq, argEnv, eq_self, if_true, if_false]
          repeat' ((first | rw [guardK_cases] | rw [condK_bool] | rw [guardD_cases]); split <;> simp only [c14_l0, hE, hj, ha, rItem, ht, kb, h28, h27, a1, a2, hw, evX, Int.reduceEq, Int.reduceLT, Int.reduceLE, Nat.reduceMul, Nat.reduceMod, evW, evR, Nat.reduceAdd, Nat.reduceLT, Nat.reduceLeDiff, reduceIte, Nat.reduceEqDiff, reduceCtorEq, argEnv, eq_self, if_true, if_false, *])
          exact ⟨_, _, _, rfl, by rfl, by simpa [hg] using a3⟩
        · have hg : findG b f q t j x = [] := if_neg (fun h => hk h.2)
          rw [decide_eq_false hk] at h27
          rw [hg]
          simp only [c14_l0, hE, hj, ha, rItem, ht, kb, h28, h27, hw, evX, Int.reduceEq, Int.reduceLT, Int.reduceLE, Nat.reduceMul, Nat.reduceMod, evW, fn_eq, evR, Nat.reduceAdd, Nat.reduceLT, Nat.reduceLeDiff, reduceIte, Nat.reduceEqDiff, reduceCtorEq, argEnv, eq_self, if_true, if_false]
          repeat' ((first | rw [guardK_cases] | rw [condK_bool] | rw [guardD_cases]); split <;> simp only [c14_l0, hE, hj, ha, rItem, ht, kb, h28, h27, hw, evX, Int.reduceEq, Int.reduceLT, Int.reduceLE, Nat.reduceMul, Nat.reduceMod, evW, evR, Nat.reduceAdd, Nat.reduceLT, Nat.reduceLeDiff, reduceIte, Nat.reduceEqDiff, reduceCtorEq, argEnv, eq_self, if_true, if_false, *])
          exact ⟨_, _, _, rfl, by rfl, by simpa [rItem, ht] using hO1⟩
      · have hg : findG b f q t j x = [] := if_neg (fun h => ht h.1)
        rw [hg]
        simp only [c14_l0, hE, hj, ha, rItem, ht, hw, evX, Int.reduceEq, Int.reduceLT, Int.reduceLE, Nat.reduceMul, Nat.reduceMod, evW, fn_eq, evR, Nat.reduceAdd, Nat.reduceLT, Nat.reduceLeDiff, reduceIte, Nat.reduceEqDiff, reduceCtorEq, argEnv, eq_self, if_true, if_false]
        repeat' ((first | rw [guardK_cases] | rw [condK_bool] | rw [guardD_cases]); split <;> simp only [c14_l0, hE, hj, ha, rItem, ht, hw, evX, Int.reduceEq, Int.reduceLT, Int.reduceLE, Nat.reduceMul, Nat.reduceMod, evW, evR, Nat.reduceAdd, Nat.reduceLT, Nat.reduceLeDiff, reduceIte, Nat.reduceEqDiff, reduceCtorEq, argEnv, eq_self, if_true, if_false, *])
        exact ⟨_, _, _, rfl, by rfl, by simpa [rItem] using hO1⟩)
    (fun E X rv hE => by
      simp only [c14_l0, hE, Int.lt_irrefl, evX, Int.reduceEq, Int.reduceLT, Int.reduceLE, Nat.reduceMul, Nat.reduceMod, evW, fn_eq, evR, Nat.reduceAdd, Nat.reduceLT, Nat.reduceLeDiff, reduceIte, Nat.reduceEqDiff, reduceCtorEq, argEnv, eq_self, if_true, if_false]
      repeat' ((first | rw [guardK_cases] | rw [condK_bool] | rw [guardD_cases]); split <;> simp only [c14_l0, hE, Int.lt_irrefl, evX, Int.reduceEq, Int.reduceLT, Int.reduceLE, Nat.reduceMul, Nat.reduceMod, evW, evR, Nat.reduceAdd, Nat.reduceLT, Nat.reduceLeDiff, reduceIte, Nat.reduceEqDiff, reduceCtorEq, argEnv, eq_self, if_true, if_false, *])
      exact ⟨_, rfl, by rfl⟩) st [] .nils (.nils ..) hE (by simpa using hH) z hz
  simp only [c14, eBase, h26, t0, t1, hlt, hlf, evX, Int.reduceEq, Int.reduceLT, Int.reduceLE, Nat.reduceMul, Nat.reduceMod, evW, fn_eq, evR, Nat.reduceAdd, Nat.reduceLT, Nat.reduceLeDiff, reduceIte, Nat.reduceEqDiff, reduceCtorEq, argEnv, eq_self, if_true, if_false]
  repeat' ((first | rw [guardK_cases] | rw [condK_bool] | rw [guardD_cases]); split <;> simp only [c14, eBase, h26, t0, t1, hlt, hlf, evX, Int.reduceEq, Int.reduceLT, Int.reduceLE, Nat.reduceMul, Nat.reduceMod, evW, evR, Nat.reduceAdd, Nat.reduceLT, Nat.reduceLeDiff, reduceIte, Nat.reduceEqDiff, reduceCtorEq, argEnv, eq_self, if_true, if_false, *])
  generalize hz : itLim _ _ = z
  obtain ⟨T, X, rv, rfl, hT, hO⟩ := L _ (by rfl) (by rw [hK]; rfl) z hz
  clear hz L
  obtain ⟨ids, g1, g2, g3⟩ := fz_out' hO K rfl (plain_ints _)
  have htk := kt X
  have hsc := out_tup hO
  generalize K ++ X = Z at *
  simp only [hT, hsc, evX, Int.reduceEq, Int.reduceLT, Int.reduceLE, Nat.reduceMul, Nat.reduceMod, evW, fn_eq, evR, Nat.reduceAdd, Nat.reduceLT, Nat.reduceLeDiff, reduceIte, Nat.reduceEqDiff, reduceCtorEq, argEnv, eq_self, if_true, if_false]
  repeat' ((first | rw [guardK_cases] | rw [condK_bool] | rw [guardD_cases]); split <;> simp only [hT, hsc, evX, Int.reduceEq, Int.reduceLT, Int.reduceLE, Nat.reduceMul, Nat.reduceMod, evW, evR, Nat.reduceAdd, Nat.reduceLT, Nat.reduceLeDiff, reduceIte, Nat.reduceEqDiff, reduceCtorEq, argEnv, eq_self, if_true, if_false, *])
  exact frz_two g1 g3 htk (fun k hk => by have := g2 k hk; omega) _ _
end Go.Proofs.YtondenmkhfignaaDoor.Code

/- logic: in the place of plain's Sp: nothing of its own. -/
set_option linter.unusedSimpArgs false
set_option linter.unusedVariables false

/- logic (from the plain seat): items that are kept are a forest, if their parents are kept; Delete (mathematics). -/
set_option linter.unusedSimpArgs false
set_option linter.unusedVariables false
set_option linter.unusedSectionVars false
namespace Go.Proofs.YtondenmkhfignaaDoor.Code
open Go.Proofs.YtondenmkhfignaaDoor.Ev

theorem lastTo_last {f : List Item} {p : Int} : ∀ (n : Nat), ∀ j : Nat, lastTo f p n < (j : Int) → j < n → typ f (j : Int) ≠ p
  | 0, j, _, h => by omega
  | n + 1, j, h, hj => by
    unfold lastTo at h
    split at h
    · omega
    · rename_i h1
      by_cases e : j = n
      · subst e; exact h1
      · exact lastTo_last n j h (by omega)

/-- some items of a forest are kept, in their order -/
structure Kept (ts : List Ty) (f g : List Item) (keep : Nat → Prop) (pos : Nat → Nat) : Prop where
  at' : ∀ (k : Nat) (x : Item), keep k → f[k]? = some x → g[pos k]? = some x
  of : ∀ j : Nat, j < g.length → ∃ (k : Nat) (x : Item), keep k ∧ f[k]? = some x ∧ pos k = j
  lt : ∀ k k' : Nat, keep k → keep k' → k < k' → k' < f.length → pos k < pos k'
  par : ∀ (k p : Nat), keep k → k < f.length → Code.par ts f k = (p : Int) → keep p
section
variable {b : Base} {f g : List Item} {keep : Nat → Prop} {pos : Nat → Nat} (hR : Right b f) (hK : Kept b.types f g keep pos)
include hR hK
theorem Kept.inv {i j : Nat} (hi : keep i) (hj : keep j) (hil : i < f.length) (h : pos i ≤ pos j) : i ≤ j := by
  by_cases hc : j < i
  · have := hK.lt j i hj hi hc hil; omega
  · omega
theorem Kept.below {i : Nat} (hi : keep i) (hil : i < f.length) {j : Nat} (hj : j < pos i) : ∃ (k : Nat) (x : Item), k < i ∧ keep k ∧ f[k]? = some x ∧ pos k = j := by
  obtain ⟨x, hx⟩ : ∃ x, f[i]? = some x := ⟨_, List.getElem?_eq_getElem hil⟩
  have hg := (List.getElem?_eq_some_iff.1 (hK.at' i x hi hx)).1
  obtain ⟨k, y, h1, h2, h3⟩ := hK.of j (by omega)
  refine ⟨k, y, ?_, h1, h2, h3⟩
  by_cases hc : k < i
  · exact hc
  · by_cases e : k = i
    · subst e; omega
    · have := hK.lt i k hi h1 (by omega) (List.getElem?_eq_some_iff.1 h2).1; omega
theorem Kept.typ' {i : Nat} {x : Item} (hx : f[i]? = some x) (hi : keep i) : typ g (pos i : Int) = x.type := typ_at (hK.at' i x hi hx)
theorem Kept.par' {i : Nat} {x : Item} (hx : f[i]? = some x) (hi : keep i) : (Code.par b.types f i = -1 ∧ Code.par b.types g (pos i) = -1) ∨ ∃ p : Nat, Code.par b.types f i = (p : Int) ∧ p < i ∧ keep p ∧ Code.par b.types g (pos i) = (pos p : Int) ∧ pos p < pos i := by
  have hil := (List.getElem?_eq_some_iff.1 hx).1
  obtain ⟨_, k, u, h0, hk, hkl, hu, _⟩ := hR.item hil
  rw [hx] at h0; cases h0
  have htp : tpar b.types (typ g (pos i : Int)) = u.parent := by rw [Kept.typ' hR hK hx hi, hk, tpar_at hu]
  rcases hR.par hx hk hu with ⟨h1, h2, hk0⟩ | ⟨p, h1, h2, _, h4, h5, h6⟩
  · exact .inl ⟨h2, by unfold Code.par; rw [htp, if_pos h1]⟩
  · have hp := hK.par i p hi hil h1
    obtain ⟨y, hy⟩ : ∃ y, f[p]? = some y := ⟨_, List.getElem?_eq_getElem (by omega)⟩
    have hlt := hK.lt p i hp hi h2 hil
    refine .inr ⟨p, h1, h2, hp, ?_, hlt⟩
    unfold Code.par
    rw [htp, if_neg (by omega)]
    refine lastTo_is ?_ _ hlt fun j' h10 h11 he => ?_
    · rw [Kept.typ' hR hK hy hp, ← typ_at hy, h6]
    · obtain ⟨j, z, e1, e2, e3, rfl⟩ := Kept.below hR hK hi hil h11
      rw [Kept.typ' hR hK e3 e2] at he
      have hjp : p < j := by
        by_cases hc : j ≤ p
        · by_cases e : j = p
          · subst e; omega
          · have := hK.lt j p e2 hp (by omega) (by omega); omega
        · omega
      have hpar : Code.par b.types f i = lastTo f u.parent i := by unfold Code.par; rw [typ_at hx, hk, tpar_at hu, if_neg (by omega)]
      exact lastTo_last i j (p := u.parent) (f := f) (by rw [← hpar, h1]; omega) e1 (by rw [typ_at e3]; exact he)
theorem Kept.pth' : ∀ (n i : Nat), i ≤ n → ∀ x, f[i]? = some x → keep i → pth b.types g (pos i) = (pth b.types f i).map fun a => (pos a.toNat : Int) := by
  intro n
  induction n with
  | zero =>
    intro i hi x hx hm
    obtain rfl : i = 0 := by omega
    have hlt := (List.getElem?_eq_some_iff.1 hx).1
    have hc := (List.getElem?_eq_some_iff.1 (hK.at' 0 x hm hx)).1
    rcases Kept.par' hR hK hx hm with ⟨h1, h2⟩ | ⟨p, _, h2, _⟩
    · rw [pth_eq _ _ hlt, pth_eq _ _ hc, h1, h2, pthI_neg _ _ (by omega), pthI_neg _ _ (by omega)]; simp
    · omega
  | succ n ih =>
    intro i hi x hx hm
    have hlt := (List.getElem?_eq_some_iff.1 hx).1
    have hc := (List.getElem?_eq_some_iff.1 (hK.at' i x hm hx)).1
    rcases Kept.par' hR hK hx hm with ⟨h1, h2⟩ | ⟨p, h1, h2, h3, h4, _⟩
    · rw [pth_eq _ _ hlt, pth_eq _ _ hc, h1, h2, pthI_neg _ _ (by omega), pthI_neg _ _ (by omega)]; simp
    · obtain ⟨y, hy⟩ : ∃ y, f[p]? = some y := ⟨_, List.getElem?_eq_getElem (by omega)⟩
      rw [pth_eq _ _ hlt, pth_eq _ _ hc, h1, h4, pthI_nat, pthI_nat, ih p (by omega) y hy h3]; simp
theorem Kept.in : ∀ (n i : Nat), i ≤ n → i < f.length → keep i → ∀ a ∈ pth b.types f i, ∃ (q : Nat) (y : Item), a = (q : Int) ∧ f[q]? = some y ∧ keep q := by
  intro n
  induction n with
  | zero =>
    intro i hi hil hm a ha
    obtain rfl : i = 0 := by omega
    have hb := pth_bound ha
    exact ⟨0, _, by omega, List.getElem?_eq_getElem hil, hm⟩
  | succ n ih =>
    intro i hi hil hm a ha
    rw [pth_eq _ _ hil] at ha
    rcases List.mem_append.1 ha with ha | ha
    · by_cases h0 : Code.par b.types f i < 0
      · rw [pthI_neg _ _ h0] at ha; cases ha
      · obtain ⟨p, hp⟩ : ∃ p : Nat, Code.par b.types f i = (p : Int) := ⟨(Code.par b.types f i).toNat, by omega⟩
        have hpk := hK.par i p hm hil hp
        rw [hp, pthI_nat] at ha
        have := (par_lt b.types f i).2
        exact ih p (by omega) (by omega) hpk a ha
    · simp at ha
      exact ⟨i, _, ha, List.getElem?_eq_getElem hil, hm⟩
theorem Kept.ok {i : Nat} {x : Item} (hx : f[i]? = some x) (hm : keep i) : okAt b.types g (pos i) x = true := by
  have hi := (List.getElem?_eq_some_iff.1 hx).1
  have hok := hR.ok i x hi hx
  have hprev : ∀ c, pos i = c + 1 → ∃ (j : Nat) (z : Item), j < i ∧ keep j ∧ f[j]? = some z ∧ pos j = c ∧ way b.types g (pos i) = (pth b.types f j).map fun a => (pos a.toNat : Int) := by
    intro c hc
    obtain ⟨j, z, e1, e2, e3, e4⟩ := Kept.below hR hK hm hi (show c < pos i by omega)
    refine ⟨j, z, e1, e2, e3, e4, ?_⟩
    rw [hc, ← e4]
    exact Kept.pth' hR hK j j (Nat.le_refl _) z e3 e2
  have hpc := Kept.par' hR hK hx hm
  simp only [okAt, Bool.and_eq_true] at hok
  obtain ⟨⟨hft, hpk⟩, _⟩ := hok
  have hpar : (decide (tpar b.types x.type < 0) || tell (Code.par b.types g (pos i) ∈ way b.types g (pos i))) = true := by
    rcases hpc with ⟨h1, h2⟩ | ⟨p, h1, h2, h3, h4, h5⟩
    · have hno : Code.par b.types f i ∉ way b.types f i := fun h => by have := way_bound h; omega
      rw [tell_neg hno, Bool.or_false] at hpk
      rw [hpk]; rfl
    · obtain ⟨j, z, e1, e2, e3, e4, e5⟩ := hprev (pos i - 1) (by omega)
      have hpj : p ≤ j := Kept.inv hR hK h3 e2 (by omega) (by omega)
      have hmw := ok_par hx (hR.ok i x hi hx) (by omega)
      rw [h1] at hmw
      obtain ⟨i, rfl⟩ : ∃ i', i = i' + 1 := ⟨i - 1, by omega⟩
      have hmj := way_between (Nat.le_refl _) hR.ok i (by omega) _ hmw j (by omega) (by omega)
      rw [e5, h4, tell_pos (List.mem_map.2 ⟨_, hmj, by simp⟩)]; simp
  have hsib : sibOk b.types g (pos i) x = true := by
    unfold sibOk
    cases hc : pos i with
    | zero => simp [way, wayTo]
    | succ c =>
      obtain ⟨j, z, e1, e2, e3, e4, e5⟩ := hprev c hc
      rw [← hc, e5]
      have hno : nOf b.types g (pos i) = nOf b.types f i := by
        unfold nOf
        rcases hpc with ⟨h1, h2⟩ | ⟨p, h1, h2, h3, h4, h5⟩
        · rw [h1, h2, pthI_neg _ _ (by omega), pthI_neg _ _ (by omega)]
        · obtain ⟨y, hy⟩ : ∃ y, f[p]? = some y := ⟨_, List.getElem?_eq_getElem (by omega)⟩
          rw [h1, h4, pthI_nat, pthI_nat, Kept.pth' hR hK p p (Nat.le_refl _) y hy h3, List.length_map]
      rw [hno, List.getElem?_map]
      cases hn : (pth b.types f j)[nOf b.types f i]? with
      | none => rfl
      | some a =>
        simp only [Option.map_some]
        obtain ⟨q, y, rfl, hy, hym⟩ := Kept.in hR hK j j (Nat.le_refl _) (List.getElem?_eq_some_iff.1 e3).1 e2 a (List.mem_of_getElem? hn)
        have hfar := sib_far hR hx (i - 1 - j) j rfl e1 (by
          rcases hpc with ⟨h1, _⟩ | ⟨p, h1, h2, h3, h4, h5⟩
          · exact .inl (by omega)
          · have hpj : p ≤ j := Kept.inv hR hK h3 e2 (by omega) (by omega)
            have hmw := ok_par hx (hR.ok i x hi hx) (by omega)
            rw [h1] at hmw
            obtain ⟨i, rfl⟩ : ∃ i', i = i' + 1 := ⟨i - 1, by omega⟩
            exact .inr (by rw [h1]; exact way_between (Nat.le_refl _) hR.ok i (by omega) _ hmw j (by omega) (by omega))) _ hn
        simp only [Int.toNat_natCast]
        have hyt := typ_at (hK.at' q y hym hy)
        have hyd := dat_at (hK.at' q y hym hy)
        simp only [ordOk, typ_at hy, dat_at hy, hyt, hyd] at hfar ⊢
        exact hfar
  rw [okAt, hft, hpar, hsib]; rfl
theorem Kept.forest (hl : g.length ≤ 200) : Right b g := by
  refine ⟨hR.base, hR.valid, ?_⟩
  unfold forestOk
  rw [decide_eq_true (by omega), Bool.true_and]
  refine tell_pos fun j y hy => ?_
  have hj := (List.getElem?_eq_some_iff.1 hy).1
  obtain ⟨i, x, e1, e2, rfl⟩ := hK.of j hj
  rw [hK.at' i x e1 e2] at hy
  cases hy
  exact Kept.ok hR hK e2 e1
end
/-- what Delete leaves -/
theorem del_kept {b : Base} {f : List Item} (hR : Right b f) {i : Nat} (hi : i < f.length) : Kept b.types f (f.take i ++ f.drop (endOf b.types f i)) (fun k => k < i ∨ endOf b.types f i ≤ k) (fun k => if k < i then k else k - (endOf b.types f i - i)) := by
  have hend := endOf_is b.types f hi
  have hlt := hend.lt
  have hle := hend.le
  have ht : (f.take i).length = i := by rw [List.length_take]; omega
  refine ⟨fun k x hk hx => ?_, fun j hj => ?_, fun k k' hk hk' hkk hkl => ?_, fun k p hk hkl hp => ?_⟩
  · by_cases h : k < i
    · simp only [if_pos h]
      rw [List.getElem?_append_left (by omega), List.getElem?_take, if_pos h]; exact hx
    · simp only [if_neg h]
      rw [List.getElem?_append_right (by omega), ht, List.getElem?_drop]
      rw [show endOf b.types f i + (k - (endOf b.types f i - i) - i) = k by omega]; exact hx
  · rw [List.length_append, ht, List.length_drop] at hj
    by_cases h : j < i
    · exact ⟨j, f[j], .inl h, List.getElem?_eq_getElem (by omega), if_pos h⟩
    · refine ⟨j + (endOf b.types f i - i), _, .inr (by omega), List.getElem?_eq_getElem (by omega), ?_⟩
      show (if j + (endOf b.types f i - i) < i then _ else _) = j
      rw [if_neg (by omega)]; omega
  · show (if k < i then _ else _) < (if k' < i then _ else _)
    split <;> split <;> omega
  · -- the parent of what is kept is kept
    have hpl := par_lt b.types f k
    by_cases h : p < i ∨ endOf b.types f i ≤ p
    · exact h
    · exfalso
      have hke : endOf b.types f i ≤ k := by rcases hk with h | h <;> omega
      have hip : (i : Int) ∈ pth b.types f p := by
        by_cases e : p = i
        · subst e; exact pth_self _ _ _
        · exact hend.all p (by omega) (by omega)
      have hik : (i : Int) ∈ pth b.types f k := by
        rw [pth_eq _ _ hkl, hp, pthI_nat]
        exact List.mem_append_left _ hip
      exact hend.no (by omega) (way_between (Nat.le_refl _) hR.ok k hkl _ hik (endOf b.types f i) (by omega) hke)
theorem del_right {b : Base} {f : List Item} (hR : Right b f) {i : Nat} (hi : i < f.length) : Right b (f.take i ++ f.drop (endOf b.types f i)) := by
  have h2 := hR.len
  have hend := endOf_is b.types f hi
  have hlt := hend.lt
  have hle := hend.le
  exact Kept.forest hR (del_kept hR hi) (by rw [List.length_append, List.length_take, List.length_drop]; omega)
end Go.Proofs.YtondenmkhfignaaDoor.Code

/- plain: a forest with a new item is a forest: parents and paths (mathematics). -/
set_option linter.unusedSimpArgs false
set_option linter.unusedVariables false
namespace Go.Proofs.YtondenmkhfignaaDoor.Code
open Go.Proofs.YtondenmkhfignaaDoor.Ev

theorem lastTo_past {f : List Item} {p : Int} : ∀ (n : Nat), ∀ j : Nat, lastTo f p n < (j : Int) → j < n → typ f (j : Int) ≠ p
  | 0, j, _, h => by omega
  | n + 1, j, h, hj => by
    unfold lastTo at h
    split at h
    · omega
    · rename_i h1
      by_cases e : j = n
      · subst e; exact h1
      · exact lastTo_past n j h (by omega)
/-- what is on one way has types that rise -/
theorem way_typ {b : Base} {f : List Item} (h : Right b f) {j : Nat} (hj : j < f.length) {a c : Nat} (ha : (a : Int) ∈ pth b.types f j) (hc : (c : Int) ∈ pth b.types f j) (hac : a < c) : typ f (a : Int) < typ f (c : Int) := by
  have hcj := pth_bound hc
  have := way_between (Nat.le_refl _) h.ok j hj (a : Int) ha c (by omega) (by omega)
  exact typ_rise h.tys (Nat.le_refl _) h.ok c c (Nat.le_refl _) (by omega) (a : Int) this (by omega)
theorem way_inj {b : Base} {f : List Item} (h : Right b f) {j : Nat} (hj : j < f.length) {a c : Nat} (ha : (a : Int) ∈ pth b.types f j) (hc : (c : Int) ∈ pth b.types f j) (ht : typ f (a : Int) = typ f (c : Int)) : a = c := by
  rcases Nat.lt_trichotomy a c with h1 | h1 | h1
  · have := way_typ h hj ha hc h1; omega
  · exact h1
  · have := way_typ h hj hc ha h1; omega
/-- two on one way with one parent are one -/
theorem way_par {b : Base} {f : List Item} (h : Right b f) {j : Nat} (hj : j < f.length) {a c : Nat} (ha : (a : Int) ∈ pth b.types f j) (hc : (c : Int) ∈ pth b.types f j) (hp : par b.types f a = par b.types f c) : a = c := by
  have key : ∀ {a c : Nat}, (a : Int) ∈ pth b.types f j → (c : Int) ∈ pth b.types f j → par b.types f a = par b.types f c → ¬ a < c := fun {a c} ha hc hp hlt => by
    have hcj := pth_bound hc
    have hm := way_between (Nat.le_refl _) h.ok j hj (a : Int) ha c (by omega) (by omega)
    obtain ⟨h0, h1⟩ := mem_par (b := b) (f := f) (j := c) (by omega) hm (by omega)
    have := pth_bound h1
    have := par_lt b.types f a
    omega
  have h1 := key ha hc hp
  have h2 := key hc ha hp.symm
  omega
/-- where a new item goes, and what is known of the place -/
structure Spot (b : Base) (f : List Item) (p t : Int) (d : ByteArray) (n : Nat) : Prop where
  R : Right b f
  lo : -1 ≤ p
  hi : p < (f.length : Int)
  le : n ≤ f.length
  at' : (n : Int) = p + 1 ∨ ∃ c : Nat, c < f.length ∧ par b.types f c = p ∧ n = endOf b.types f c ∧ front b f t (keyOf (tyOf b.types t) d) c = true
  next : n < f.length → par b.types f n = p → front b f t (keyOf (tyOf b.types t) d) n = false
  fit : fits b.types ⟨t, d⟩ = true
  typ : (p < 0 ∧ t = 0) ∨ (0 ≤ p ∧ tpar b.types t = Code.typ f p)
  one : (tyOf b.types t).unique = true → ∀ k : Nat, k < f.length → par b.types f k = p → Code.typ f (k : Int) = t → kKey b f t k ≠ keyOf (tyOf b.types t) d
section
variable {b : Base} {f : List Item} {p t : Int} {d : ByteArray} {n : Nat} (S : Spot b f p t d n)
include S
theorem Spot.gt : p < (n : Int) := by
  rcases S.at' with h | ⟨c, h1, h2, h3, _⟩
  · omega
  · have := par_lt b.types f c
    have := (endOf_is b.types f h1).lt
    omega
/-- the parent is on the way of the place -/
theorem Spot.way {q : Nat} (hq : p = (q : Int)) : (q : Int) ∈ pth b.types f (n - 1) := by
  have hg := S.gt
  rcases S.at' with h | ⟨c, h1, h2, h3, _⟩
  · rw [show n - 1 = q by omega]; exact pth_self ..
  · have he := endOf_is b.types f h1
    have hlt := he.lt
    have hle := he.le
    by_cases e : n - 1 = c
    · rw [e]; exact par_mem h1 (by rw [h2, hq])
    · exact anc_trans _ (he.all (n - 1) (by omega) (by omega)) (par_mem h1 (by rw [h2, hq]))
/-- nothing that has the new item's type is above what comes behind it, within what stands ahead -/
theorem Spot.free {q k : Nat} (hq : q < n) (hk : n ≤ k) (hkl : k < f.length) (hm : (q : Int) ∈ pth b.types f k) (ht : Code.typ f (q : Int) = t) : False := by
  have R := S.R
  have hg := S.gt
  have hnl : n < f.length := by omega
  have m1 := way_between (Nat.le_refl _) R.ok k hkl (q : Int) hm (n - 1) (by omega) (by omega)
  have mn := way_between (Nat.le_refl _) R.ok k hkl (q : Int) hm n (by omega) hk
  have hql : q < f.length := by omega
  have hqp : par b.types f q = p := by
    obtain ⟨y, ky, ty, hy, hky, _, hty, _⟩ := R.item hql
    have hyt : (ky : Int) = t := by rw [← hky, ← ht, typ_at hy]
    have htp : tpar b.types t = ty.parent := by rw [← hyt, tpar_at hty]
    rcases R.par hy hky hty with ⟨a1, a2, a3⟩ | ⟨r, a1, a2, _, a4, _, a6⟩
    · rcases S.typ with ⟨b1, b2⟩ | ⟨b1, b2⟩
      · have := S.lo; omega
      · exfalso
        obtain ⟨u, hu⟩ : ∃ u : Nat, p = (u : Int) := ⟨p.toNat, by omega⟩
        have hul : u < f.length := by have := S.hi; omega
        obtain ⟨z, kz, _, hz, hkz, _⟩ := R.item hul
        rw [hu, typ_at hz, hkz, htp] at b2
        omega
    · rcases S.typ with ⟨b1, b2⟩ | ⟨b1, b2⟩
      · exfalso
        have := (tys_root R.tys hty).2 (by omega)
        omega
      · obtain ⟨u, hu⟩ : ∃ u : Nat, p = (u : Int) := ⟨p.toNat, by omega⟩
        have mu := S.way hu
        have mr : (r : Int) ∈ pth b.types f (n - 1) := anc_trans _ m1 (par_mem hql a1)
        have : r = u := way_inj R (by omega) mr mu (by rw [a6, ← htp, b2, hu])
        omega
  rcases S.at' with h | ⟨c, h1, h2, h3, _⟩
  · have := par_lt b.types f q
    omega
  · have he := endOf_is b.types f h1
    have hlt := he.lt
    have mc : (c : Int) ∈ pth b.types f (n - 1) := by
      by_cases e : n - 1 = c
      · rw [e]; exact pth_self ..
      · exact he.all (n - 1) (by omega) (by omega)
    have hqc : q = c := way_par R (by omega) m1 mc (by rw [hqp, h2])
    subst hqc
    rw [h3] at mn
    exact he.no (by omega) mn
end
/-- the forest with the new item -/
def insX (f : List Item) (t : Int) (d : ByteArray) (n : Nat) : List Item := f.take n ++ ⟨t, d⟩ :: f.drop n
def sg (n k : Nat) : Nat := if k < n then k else k + 1
theorem sg_lt {n k : Nat} (h : k < n) : sg n k = k := if_pos h
theorem sg_ge {n k : Nat} (h : n ≤ k) : sg n k = k + 1 := if_neg (by omega)
theorem sg_mono {n a c : Nat} : sg n a < sg n c ↔ a < c := by
  unfold sg; split <;> split <;> omega
theorem sg_of {n j : Nat} (h : j ≠ n) : ∃ k, sg n k = j := by
  by_cases hj : j < n
  · exact ⟨j, sg_lt hj⟩
  · exact ⟨j - 1, by rw [sg_ge (by omega)]; omega⟩
section
variable {f : List Item} {t : Int} {d : ByteArray} {n : Nat} (hn : n ≤ f.length)
include hn
theorem insX_new : (insX f t d n)[n]? = some ⟨t, d⟩ := by
  unfold insX
  rw [List.getElem?_append_right (by rw [List.length_take]; omega), List.length_take, show n - min n f.length = 0 by omega]; rfl
theorem insX_old (k : Nat) : (insX f t d n)[sg n k]? = f[k]? := by
  unfold insX
  by_cases h : k < n
  · rw [sg_lt h, List.getElem?_append_left (by simp; omega), List.getElem?_take, if_pos h]
  · rw [sg_ge (by omega), List.getElem?_append_right (by simp; omega), List.length_take, show k + 1 - min n f.length = (k - n) + 1 by omega, List.getElem?_cons_succ, List.getElem?_drop]
    congr 1
    omega
theorem insX_len : (insX f t d n).length = f.length + 1 := by simp [insX]; omega
theorem typ_old (k : Nat) : typ (insX f t d n) (sg n k : Int) = typ f (k : Int) := by
  unfold typ
  rw [Int.toNat_natCast, Int.toNat_natCast, insX_old hn]
theorem dat_old (k : Nat) : dat (insX f t d n) (sg n k : Int) = dat f (k : Int) := by
  unfold dat
  rw [Int.toNat_natCast, Int.toNat_natCast, insX_old hn]
end
section
variable {b : Base} {f : List Item} {p t : Int} {d : ByteArray} {n : Nat} (S : Spot b f p t d n)
include S
theorem Spot.par' {k : Nat} (hk : k < f.length) : (par b.types f k = -1 ∧ par b.types (insX f t d n) (sg n k) = -1) ∨ ∃ q : Nat, par b.types f k = (q : Int) ∧ q < k ∧ par b.types (insX f t d n) (sg n k) = (sg n q : Int) := by
  have R := S.R
  have hn := S.le
  obtain ⟨x, kx, u, hx, hkx, _, hu, _⟩ := R.item hk
  have htp : tpar b.types (Code.typ (insX f t d n) (sg n k : Int)) = u.parent := by rw [typ_old hn, typ_at hx, hkx, tpar_at hu]
  rcases R.par hx hkx hu with ⟨h1, h2, hk0⟩ | ⟨q, h1, h2, _, h4, h5, h6⟩
  · exact .inl ⟨h2, by unfold Code.par; rw [htp, if_pos h1]⟩
  · refine .inr ⟨q, h1, h2, ?_⟩
    unfold Code.par
    rw [htp, if_neg (by omega)]
    refine lastTo_is (by rw [typ_old hn, h6]) _ (sg_mono.2 h2) fun j' h10 h11 he => ?_
    by_cases hj : j' = n
    · subst hj
      have hqn : q < j' := by
        apply Classical.byContradiction
        intro hc
        rw [sg_ge (by omega)] at h10; omega
      have hkn : j' ≤ k := by
        apply Classical.byContradiction
        intro hc
        rw [sg_lt (by omega)] at h11; omega
      rw [typ_at (insX_new hn)] at he
      simp only at he
      exact S.free hqn hkn hk (par_mem hk h1) (by rw [h6, ← he])
    · obtain ⟨j, rfl⟩ := sg_of hj
      rw [typ_old hn] at he
      have hpar : Code.par b.types f k = lastTo f u.parent k := by unfold Code.par; rw [typ_at hx, hkx, tpar_at hu, if_neg (by omega)]
      exact lastTo_past k j (p := u.parent) (f := f) (by rw [← hpar, h1]; have := sg_mono.1 h10; omega) (sg_mono.1 h11) he
theorem Spot.parN : par b.types (insX f t d n) n = p := by
  have R := S.R
  have hn := S.le
  have hg := S.gt
  unfold Code.par
  rw [typ_at (insX_new hn)]
  simp only
  rcases S.typ with ⟨b1, b2⟩ | ⟨b1, b2⟩
  · obtain ⟨k, ty, hk, _, hty, _⟩ := fits_some S.fit
    simp only at hk
    have hk0 : k = 0 := by omega
    have : ty.parent < 0 := (tys_root R.tys hty).2 hk0
    rw [show tpar b.types t = ty.parent by rw [hk, tpar_at hty], if_pos this]
    have := S.lo; omega
  · obtain ⟨u, rfl⟩ : ∃ u : Nat, p = (u : Int) := ⟨p.toNat, by omega⟩
    have hul : u < f.length := by have := S.hi; omega
    obtain ⟨z, kz, _, hz, hkz, _⟩ := R.item hul
    rw [if_neg (by rw [b2, typ_at hz, hkz]; omega)]
    have hun : u < n := by omega
    have hsu : sg n u = u := sg_lt hun
    refine lastTo_is (by rw [← hsu, typ_old hn, b2]) _ hun fun j h1 h2 he => ?_
    have hsj : sg n j = j := sg_lt h2
    rw [← hsj, typ_old hn, b2] at he
    have mu := S.way rfl
    have mj := way_between (Nat.le_refl _) R.ok (n - 1) (by omega) (u : Int) mu j (by omega) (by omega)
    have := way_typ R (by omega) mj (pth_self b.types f j) h1
    omega
theorem Spot.pth' : ∀ (m k : Nat), k ≤ m → k < f.length → pth b.types (insX f t d n) (sg n k) = (pth b.types f k).map fun a => (sg n a.toNat : Int) := by
  have hn := S.le
  have hlx := insX_len (t := t) (d := d) hn
  intro m
  induction m with
  | zero =>
    intro k hk hkl
    have hc : sg n k < (insX f t d n).length := by rw [hlx]; unfold sg; split <;> omega
    rcases S.par' hkl with ⟨h1, h2⟩ | ⟨q, h1, h2, _⟩
    · rw [pth_eq _ _ hkl, pth_eq _ _ hc, h1, h2, pthI_neg _ _ (by omega), pthI_neg _ _ (by omega)]; simp
    · omega
  | succ m ih =>
    intro k hk hkl
    have hc : sg n k < (insX f t d n).length := by rw [hlx]; unfold sg; split <;> omega
    rcases S.par' hkl with ⟨h1, h2⟩ | ⟨q, h1, h2, h3⟩
    · rw [pth_eq _ _ hkl, pth_eq _ _ hc, h1, h2, pthI_neg _ _ (by omega), pthI_neg _ _ (by omega)]; simp
    · rw [pth_eq _ _ hkl, pth_eq _ _ hc, h1, h3, pthI_nat, pthI_nat, ih q (by omega) (by omega)]; simp
end
end Go.Proofs.YtondenmkhfignaaDoor.Code

/- plain: a forest with a new item is a forest (mathematics). -/
set_option linter.unusedSimpArgs false
set_option linter.unusedVariables false
namespace Go.Proofs.YtondenmkhfignaaDoor.Code
open Go.Proofs.YtondenmkhfignaaDoor.Ev

theorem pth_pre {ts : List Ty} {f : List Item} {j r : Nat} (hj : j < f.length) (h : (r : Int) ∈ pth ts f j) : (pth ts f j).take (pth ts f r).length = pth ts f r ∧ (pth ts f r).length ≤ (pth ts f j).length := by
  obtain ⟨i, hi⟩ := List.getElem?_of_mem h
  have hl := (List.getElem?_eq_some_iff.1 hi).1
  have ht := take_anc (pts ts f) (good_pts ts f) (by rw [pts_len]; exact Nat.le_refl _) j j (Nat.le_refl _) hj i (r : Int) hi
  rw [Int.toNat_natCast] at ht
  change (pth ts f j).take (i + 1) = pth ts f r at ht
  have hlen : (pth ts f r).length = i + 1 := by rw [← ht, List.length_take]; omega
  rw [hlen]
  exact ⟨ht, by omega⟩
section
variable {b : Base} {f : List Item} {p t : Int} {d : ByteArray} {n : Nat} (S : Spot b f p t d n)
include S
/-- the way of the place begins with the parent's path -/
theorem Spot.pre : (Code.way b.types f n).take (pthI b.types f p).length = pthI b.types f p := by
  have hg := S.gt
  by_cases h0 : p < 0
  · rw [pthI_neg _ _ h0]; rfl
  · obtain ⟨u, hu⟩ : ∃ u : Nat, p = (u : Int) := ⟨p.toNat, by omega⟩
    have hm := S.way hu
    obtain ⟨m, hm1⟩ : ∃ m, n = m + 1 := ⟨n - 1, by omega⟩
    rw [hu, pthI_nat, hm1]
    change (pth b.types f m).take _ = _
    rw [hm1] at hm
    have hle := S.le
    exact (pth_pre (by omega) hm).1
/-- the way of the place at the depth of the new item -/
theorem Spot.sib : (Code.way b.types f n)[(pthI b.types f p).length]? = none ∨ ∃ c : Nat, (Code.way b.types f n)[(pthI b.types f p).length]? = some (c : Int) ∧ c < f.length ∧ par b.types f c = p ∧ front b f t (keyOf (tyOf b.types t) d) c = true := by
  have hg := S.gt
  rcases S.at' with h | ⟨c, h1, h2, h3, h4⟩
  · left
    by_cases h0 : p < 0
    · have hn0 : n = 0 := by have := S.lo; omega
      rw [hn0]; rfl
    · obtain ⟨u, hu⟩ : ∃ u : Nat, p = (u : Int) := ⟨p.toNat, by omega⟩
      have hnu : n = u + 1 := by omega
      rw [hnu, hu, pthI_nat]
      change (pth b.types f u)[_]? = none
      exact List.getElem?_eq_none (Nat.le_refl _)
  · right
    refine ⟨c, ?_, h1, h2, h4⟩
    have he := endOf_is b.types f h1
    have hlt := he.lt
    have hle := he.le
    obtain ⟨m, hm⟩ : ∃ m, n = m + 1 := ⟨n - 1, by omega⟩
    have mc : (c : Int) ∈ pth b.types f m := by
      by_cases e : m = c
      · rw [e]; exact pth_self ..
      · exact he.all m (by omega) (by omega)
    rw [hm]
    change (pth b.types f m)[_]? = _
    obtain ⟨e1, e2⟩ := pth_pre (by omega) mc
    have hc := pth_eq b.types f h1
    rw [h2] at hc
    have hL : (pth b.types f c).length = (pthI b.types f p).length + 1 := by rw [hc]; simp
    have : ((pth b.types f m).take (pth b.types f c).length)[(pthI b.types f p).length]? = some (c : Int) := by rw [e1, hc]; simp
    rw [List.getElem?_take, if_pos (by omega)] at this
    exact this
/-- the parent of what stands at the place is on the parent's path -/
theorem Spot.next' (hn : n < f.length) {r : Nat} (hr : par b.types f n = (r : Int)) : (r : Int) ∈ pthI b.types f p := by
  have R := S.R
  have hg := S.gt
  have hrn : r < n := by have := par_lt b.types f n; omega
  have mr := way_between (Nat.le_refl _) R.ok n hn (r : Int) (par_mem hn hr) (n - 1) (by omega) (by omega)
  rcases S.at' with h | ⟨c, h1, h2, h3, h4⟩
  · rw [show p = ((n - 1 : Nat) : Int) by omega, pthI_nat]; exact mr
  · have he := endOf_is b.types f h1
    have hlt := he.lt
    have mc : (c : Int) ∈ pth b.types f (n - 1) := by
      by_cases e : n - 1 = c
      · rw [e]; exact pth_self ..
      · exact he.all (n - 1) (by omega) (by omega)
    have hno : (c : Int) ∉ pth b.types f n := by
      have := he.no (by omega)
      rw [← h3] at this
      exact this
    have hrc : r < c := by
      apply Classical.byContradiction
      intro hc
      have := way_between (Nat.le_refl _) R.ok (n - 1) (by omega) (c : Int) mc r (by omega) (by omega)
      exact hno (anc_trans _ (par_mem hn hr) this)
    have mrc := way_between (Nat.le_refl _) R.ok (n - 1) (by omega) (r : Int) mr c (by omega) (by omega)
    obtain ⟨g1, g2⟩ := mem_par h1 mrc (by omega)
    rw [h2] at g1 g2
    obtain ⟨u, hu⟩ : ∃ u : Nat, p = (u : Int) := ⟨p.toNat, by omega⟩
    rw [hu, pthI_nat]
    rw [hu, Int.toNat_natCast] at g2
    exact g2
theorem Spot.pthIx {a : Int} (ha : a = -1 ∨ ∃ q : Nat, a = (q : Int) ∧ q < f.length) : pthI b.types (insX f t d n) (if a < 0 then a else (sg n a.toNat : Int)) = (pthI b.types f a).map fun a => (sg n a.toNat : Int) := by
  rcases ha with rfl | ⟨q, rfl, hq⟩
  · rw [if_pos (by omega), pthI_neg _ _ (by omega), pthI_neg _ _ (by omega)]; rfl
  · rw [if_neg (by omega), Int.toNat_natCast, pthI_nat, pthI_nat, S.pth' q q (Nat.le_refl _) hq]
theorem Spot.sgp : (if p < 0 then p else (sg n p.toNat : Int)) = p := by
  have hg := S.gt
  split
  · rfl
  · rw [sg_lt (by omega)]; omega
theorem Spot.pthN : pth b.types (insX f t d n) n = (pthI b.types f p).map (fun a => (sg n a.toNat : Int)) ++ [(n : Int)] := by
  have hlx := insX_len (t := t) (d := d) S.le
  have hle := S.le
  have h := S.pthIx (a := p) (by
    have := S.lo
    by_cases h0 : p < 0
    · exact .inl (by omega)
    · exact .inr ⟨p.toNat, by omega, by have := S.hi; omega⟩)
  rw [S.sgp] at h
  rw [pth_eq _ _ (by omega), S.parN, h]
theorem Spot.wayX {k : Nat} (hk : k < f.length) (hne : k ≠ n) : Code.way b.types (insX f t d n) (sg n k) = (Code.way b.types f k).map fun a => (sg n a.toNat : Int) := by
  cases k with
  | zero => rw [sg_lt (by omega)]; rfl
  | succ k =>
    have h := S.pth' k k (Nat.le_refl _) (by omega)
    by_cases hkn : k + 1 < n
    · rw [sg_lt hkn]
      rw [sg_lt (by omega)] at h
      exact h
    · rw [sg_ge (by omega)]
      rw [sg_ge (by omega)] at h
      exact h
theorem Spot.wayN : Code.way b.types (insX f t d n) n = (Code.way b.types f n).map fun a => (sg n a.toNat : Int) := by
  have hle := S.le
  obtain ⟨m, hm⟩ | h0 : (∃ m, n = m + 1) ∨ n = 0 := by
    cases n with
    | zero => exact .inr rfl
    | succ m => exact .inl ⟨m, rfl⟩
  · have h := S.pth' m m (Nat.le_refl _) (by omega)
    rw [sg_lt (by omega)] at h
    have ew : ∀ (N : Nat) (g : List Item), N = m + 1 → Code.way b.types g N = pth b.types g m := fun N g h => by subst h; rfl
    have e1 := ew n (insX f t d n) hm
    have e2 := ew n f hm
    rw [e1, e2, h]
  · rw [h0]; rfl
end
end Go.Proofs.YtondenmkhfignaaDoor.Code

/- plain: a forest with a new item is a forest, and the item is a leaf (mathematics). -/
set_option linter.unusedSimpArgs false
set_option linter.unusedVariables false
namespace Go.Proofs.YtondenmkhfignaaDoor.Code
open Go.Proofs.YtondenmkhfignaaDoor.Ev

section
variable {b : Base} {f : List Item} {p t : Int} {d : ByteArray} {n : Nat} (S : Spot b f p t d n)
include S
theorem Spot.ord_old {x : Item} {a : Nat} : ordOk b.types (insX f t d n) (sg n a : Int) x = ordOk b.types f (a : Int) x := by
  unfold ordOk
  rw [typ_old S.le, dat_old S.le]
theorem Spot.ordN {x : Item} (hn : n < f.length) (hx : f[n]? = some x) (hp : par b.types f n = p) : ordOk b.types (insX f t d n) (n : Int) x = true := by
  have hf := S.next hn hp
  have h1 := S.one
  simp only [front, Bool.or_eq_false_iff, Bool.and_eq_false_iff, decide_eq_false_iff_not, typ_at hx] at hf
  obtain ⟨q1, q2⟩ := hf
  have hkx : kKey b f t n = keyOf (tyOf b.types t) x.data := by unfold kKey; rw [dat_at hx]
  simp only [ordOk, typ_at (insX_new S.le), dat_at (insX_new S.le), Bool.or_eq_true, Bool.and_eq_true, decide_eq_true_eq]
  by_cases hlt : t < x.type
  · exact .inl hlt
  · have he : t = x.type := by omega
    refine .inr ⟨he, ?_⟩
    rw [← he]
    rcases q2 with q2 | q2
    · exact absurd he.symm q2
    · rw [hkx] at q2
      obtain ⟨q3, q4⟩ := q2
      have htri := bLt_tri (keyOf (tyOf b.types t) d) (keyOf (tyOf b.types t) x.data)
      rw [q3] at htri
      simp only [Bool.not_false, Bool.or_eq_true, decide_eq_true_eq] at htri
      simp only [inOrd, Bool.or_eq_true, Bool.and_eq_true, decide_eq_true_eq, Bool.not_eq_true']
      rcases htri with h | h
      · exact .inl (.inr h)
      · refine .inr ⟨h, ?_⟩
        cases hu : (tyOf b.types t).unique with
        | false => rfl
        | true => exact absurd (by rw [hkx, h]) (h1 hu n hn hp (by rw [typ_at hx]; exact he.symm))
theorem Spot.ordC {c : Nat} (hc : c < f.length) (hp : par b.types f c = p) (hf : front b f t (keyOf (tyOf b.types t) d) c = true) : ordOk b.types (insX f t d n) (sg n c : Int) ⟨t, d⟩ = true := by
  have h1 := S.one
  rw [S.ord_old]
  simp only [front, Bool.or_eq_true, Bool.and_eq_true, decide_eq_true_eq] at hf
  simp only [ordOk, Bool.or_eq_true, Bool.and_eq_true, decide_eq_true_eq]
  rcases hf with hf | ⟨hf, hk⟩
  · exact .inl hf
  · refine .inr ⟨hf, ?_⟩
    simp only [inOrd, Bool.or_eq_true, Bool.and_eq_true, decide_eq_true_eq, Bool.not_eq_true']
    rcases hk with hk | ⟨hk, _⟩
    · exact .inl (.inr hk)
    · refine .inr ⟨hk, ?_⟩
      cases hu : (tyOf b.types t).unique with
      | false => rfl
      | true => exact absurd hk (h1 hu c hc hp hf)
theorem Spot.okOld {k : Nat} {x : Item} (hx : f[k]? = some x) : okAt b.types (insX f t d n) (sg n k) x = true := by
  have R := S.R
  have hk := (List.getElem?_eq_some_iff.1 hx).1
  have hok := R.ok k x hk hx
  have hle := S.le
  simp only [okAt, Bool.and_eq_true] at hok ⊢
  obtain ⟨⟨hft, hpk⟩, hsb⟩ := hok
  have hpc := S.par' hk
  have hno : nOf b.types (insX f t d n) (sg n k) = nOf b.types f k := by
    unfold nOf
    rcases hpc with ⟨h1, h2⟩ | ⟨q, h1, h2, h3⟩
    · rw [h1, h2, pthI_neg _ _ (by omega), pthI_neg _ _ (by omega)]
    · rw [h1, h3, pthI_nat, pthI_nat, S.pth' q q (Nat.le_refl _) (by omega), List.length_map]
  refine ⟨⟨hft, ?_⟩, ?_⟩
  · rcases hpc with ⟨h1, h2⟩ | ⟨q, h1, h2, h3⟩
    · have hno' : Code.par b.types f k ∉ Code.way b.types f k := fun h => by have := way_bound h; omega
      rw [tell_neg hno', Bool.or_false] at hpk
      rw [hpk]; rfl
    · have hm := ok_par hx (R.ok k x hk hx) (by omega)
      rw [h1] at hm
      rw [h3]
      have : tell ((sg n q : Int) ∈ Code.way b.types (insX f t d n) (sg n k)) = true := by
        refine tell_pos ?_
        by_cases hkn : k = n
        · subst hkn
          rw [sg_ge (Nat.le_refl _)]
          change (sg k q : Int) ∈ pth b.types (insX f t d k) k
          rw [S.pthN]
          exact List.mem_append_left _ (List.mem_map.2 ⟨_, S.next' hk h1, by simp⟩)
        · rw [S.wayX hk hkn]
          exact List.mem_map.2 ⟨_, hm, by simp⟩
      rw [this]; simp
  · unfold sibOk
    rw [hno]
    by_cases hkn : k = n
    · subst hkn
      rw [sg_ge (Nat.le_refl _)]
      change (match (pth b.types (insX f t d k) k)[nOf b.types f k]? with
        | some a => ordOk b.types (insX f t d k) a x
        | none => true) = true
      rw [S.pthN]
      rcases Nat.lt_trichotomy (nOf b.types f k) (pthI b.types f p).length with h | h | h
      · rw [List.getElem?_append_left (by simpa using h), List.getElem?_map]
        have hpre := S.pre
        have e : (pthI b.types f p)[nOf b.types f k]? = (Code.way b.types f k)[nOf b.types f k]? := by
          conv => lhs; rw [← hpre]
          rw [List.getElem?_take, if_pos h]
        rw [e]
        unfold sibOk at hsb
        cases ha : (Code.way b.types f k)[nOf b.types f k]? with
        | none => rfl
        | some a =>
          rw [ha] at hsb
          have hb := way_bound (List.mem_of_getElem? ha)
          obtain ⟨q, rfl⟩ : ∃ q : Nat, a = (q : Int) := ⟨a.toNat, by omega⟩
          simp only [Option.map_some, Int.toNat_natCast]
          rw [S.ord_old]
          exact hsb
      · rw [List.getElem?_append_right (by simp; omega), List.length_map, h, Nat.sub_self]
        simp only [List.getElem?_cons_zero]
        refine S.ordN hk hx ?_
        unfold nOf at h
        rcases hpc with ⟨h1, h2⟩ | ⟨q, h1, h2, h3⟩
        · rw [h1, pthI_neg _ _ (by omega)] at h
          by_cases h0 : p < 0
          · have := S.lo; omega
          · obtain ⟨u, hu⟩ : ∃ u : Nat, p = (u : Int) := ⟨p.toNat, by omega⟩
            rw [hu, pthI_nat] at h
            have := List.length_pos_of_mem (pth_self b.types f u)
            simp at h; omega
        · have hm := S.next' hk h1
          rw [h1]
          by_cases h0 : p < 0
          · rw [pthI_neg _ _ h0] at hm; cases hm
          · obtain ⟨u, hu⟩ : ∃ u : Nat, p = (u : Int) := ⟨p.toNat, by omega⟩
            have hul : u < f.length := by have := S.hi; omega
            rw [h1, hu, pthI_nat, pthI_nat] at h
            rw [hu, pthI_nat] at hm
            obtain ⟨e1, e2⟩ := pth_pre hul hm
            rw [h, List.take_length] at e1
            rw [hu]
            refine pthI_inj (ts := b.types) (f := f) (by omega) (by omega) ?_
            rw [pthI_nat, pthI_nat, e1]
      · rw [List.getElem?_eq_none (by simp; omega)]
    · rw [S.wayX hk hkn, List.getElem?_map]
      unfold sibOk at hsb
      cases ha : (Code.way b.types f k)[nOf b.types f k]? with
      | none => rfl
      | some a =>
        rw [ha] at hsb
        have hb := way_bound (List.mem_of_getElem? ha)
        obtain ⟨q, rfl⟩ : ∃ q : Nat, a = (q : Int) := ⟨a.toNat, by omega⟩
        simp only [Option.map_some, Int.toNat_natCast]
        rw [S.ord_old]
        exact hsb
theorem Spot.okNew : okAt b.types (insX f t d n) n ⟨t, d⟩ = true := by
  have R := S.R
  have hle := S.le
  have hg := S.gt
  simp only [okAt, Bool.and_eq_true]
  refine ⟨⟨S.fit, ?_⟩, ?_⟩
  · rw [S.parN]
    by_cases h0 : p < 0
    · rcases S.typ with ⟨b1, b2⟩ | ⟨b1, b2⟩
      · obtain ⟨k, ty, hk, _, hty, _⟩ := fits_some S.fit
        simp only at hk
        have : ty.parent < 0 := (tys_root R.tys hty).2 (by omega)
        rw [show tpar b.types t = ty.parent by rw [hk, tpar_at hty], decide_eq_true this]; rfl
      · omega
    · obtain ⟨u, hu⟩ : ∃ u : Nat, p = (u : Int) := ⟨p.toNat, by omega⟩
      have hm := S.way hu
      have : tell (p ∈ Code.way b.types (insX f t d n) n) = true := by
        refine tell_pos ?_
        rw [S.wayN]
        refine List.mem_map.2 ⟨p, ?_, by rw [hu, Int.toNat_natCast, sg_lt (by omega)]⟩
        rw [hu]
        obtain ⟨m, hm1⟩ : ∃ m, n = m + 1 := ⟨n - 1, by omega⟩
        rw [hm1] at hm ⊢
        exact hm
      rw [this]; simp
  · unfold sibOk
    have hno : nOf b.types (insX f t d n) n = (pthI b.types f p).length := by
      unfold nOf
      have h := S.pthIx (a := p) (by
        have := S.lo
        by_cases h0 : p < 0
        · exact .inl (by omega)
        · exact .inr ⟨p.toNat, by omega, by have := S.hi; omega⟩)
      rw [S.sgp] at h
      rw [S.parN, h, List.length_map]
    rw [hno, S.wayN, List.getElem?_map]
    rcases S.sib with h | ⟨c, h, h1, h2, h3⟩
    · rw [h]; rfl
    · rw [h]
      simp only [Option.map_some, Int.toNat_natCast]
      exact S.ordC h1 h2 h3
theorem Spot.right (hl : f.length < 200) : Right b (insX f t d n) := by
  refine ⟨S.R.base, S.R.valid, ?_⟩
  unfold forestOk
  rw [decide_eq_true (by rw [insX_len S.le]; omega), Bool.true_and]
  refine tell_pos fun j y hy => ?_
  by_cases hj : j = n
  · subst hj
    rw [insX_new S.le] at hy; cases hy
    exact S.okNew
  · obtain ⟨k, rfl⟩ := sg_of hj
    rw [insX_old S.le] at hy
    exact S.okOld hy
end
end Go.Proofs.YtondenmkhfignaaDoor.Code

/- plain: the place of a new item is one place (mathematics). -/
set_option linter.unusedSimpArgs false
set_option linter.unusedVariables false
namespace Go.Proofs.YtondenmkhfignaaDoor.Code
open Go.Proofs.YtondenmkhfignaaDoor.Ev

theorem sib_ord {b : Base} {f : List Item} (h : Right b f) {p : Int} {k k' : Nat} (hkk : k < k') (h1 : par b.types f k = p) (h2 : par b.types f k' = p) {x : Item} (hx : f[k']? = some x) : ordOk b.types f (k : Int) x = true := by
  have hk' := (List.getElem?_eq_some_iff.1 hx).1
  have hkl : k < f.length := by omega
  have hpth := pth_eq b.types f hkl
  have hcond : par b.types f k' < 0 ∨ par b.types f k' ∈ pth b.types f k := by
    by_cases h0 : par b.types f k' < 0
    · exact .inl h0
    · obtain ⟨q, hq⟩ : ∃ q : Nat, p = (q : Int) := ⟨p.toNat, by omega⟩
      rw [h2, hq]
      exact .inr (par_mem hkl (by rw [h1, hq]))
  have hc : (pth b.types f k)[nOf b.types f k']? = some (k : Int) := by
    unfold nOf
    rw [hpth, h1, h2]
    simp
  exact sib_far h hx (k' - 1 - k) k rfl hkk hcond (k : Int) hc
/-- ends of children, one behind the other -/
theorem end_rise {b : Base} {f : List Item} (h : Right b f) {p : Int} (hp : -1 ≤ p) {k k' : Nat} (hkk : k < k') (hk' : k' < f.length) (h1 : par b.types f k = p) (h2 : par b.types f k' = p) : endOf b.types f k ≤ k' := by
  apply Classical.byContradiction
  intro hc
  exact (next_child h hp (show k < f.length by omega) h1).1 k' hkk (by omega) h2
theorem fold_case (b : Base) (f : List Item) (t : Int) (s : ByteArray) : ∀ (l : List Nat) (a : Nat), l.foldl (atD b f t s) a = a ∨ ∃ k ∈ l, front b f t s k = true ∧ l.foldl (atD b f t s) a = endOf b.types f k
  | [], a => .inl rfl
  | k :: l, a => by
    rw [List.foldl_cons]
    rcases fold_case b f t s l (atD b f t s a k) with h | ⟨j, h1, h2, h3⟩
    · by_cases hf : front b f t s k = true
      · exact .inr ⟨k, List.mem_cons_self .., hf, by rw [h]; unfold atD; rw [if_pos hf]⟩
      · exact .inl (by rw [h]; unfold atD; rw [if_neg hf])
    · exact .inr ⟨j, List.mem_cons_of_mem _ h1, h2, h3⟩
theorem fold_ge (b : Base) (f : List Item) (t : Int) (s : ByteArray) : ∀ (l : List Nat) (a : Nat), (∀ k ∈ l, a ≤ endOf b.types f k) → l.Pairwise (fun k k' => endOf b.types f k ≤ endOf b.types f k') → a ≤ l.foldl (atD b f t s) a ∧ ∀ k ∈ l, front b f t s k = true → endOf b.types f k ≤ l.foldl (atD b f t s) a
  | [], a, _, _ => ⟨Nat.le_refl _, fun k h => by cases h⟩
  | k :: l, a, h1, h2 => by
    rw [List.pairwise_cons] at h2
    rw [List.foldl_cons]
    have ha : a ≤ atD b f t s a k := by
      unfold atD
      split
      · exact h1 k (List.mem_cons_self ..)
      · exact Nat.le_refl _
    obtain ⟨i1, i2⟩ := fold_ge b f t s l (atD b f t s a k) (fun j hj => by
      unfold atD
      split
      · exact h2.1 j hj
      · exact h1 j (List.mem_cons_of_mem _ hj)) h2.2
    refine ⟨by omega, fun j hj hf => ?_⟩
    rcases List.mem_cons.1 hj with rfl | hj
    · have e : atD b f t s a j = endOf b.types f j := by unfold atD; rw [if_pos hf]
      rw [e] at i1 ⊢
      exact i1
    · exact i2 j hj hf
/-- the place that is found -/
theorem spot_of {b : Base} {f : List Item} {p t : Int} {d : ByteArray} (R : Right b f) (lo : -1 ≤ p) (hi : p < (f.length : Int)) (fit : fits b.types ⟨t, d⟩ = true) (ht : (p < 0 ∧ t = 0) ∨ (0 ≤ p ∧ tpar b.types t = typ f p)) (htw : twice b f p t (keyOf (tyOf b.types t) d) = false) : Spot b f p t d (placeN b f p t d) := by
  have hge := fold_ge b f t (keyOf (tyOf b.types t) d) (chl b f p) (p + 1).toNat (fun k hk => by
    have hm := mem_chTo.1 hk
    have := (endOf_is b.types f hm.1).lt
    have := par_lt b.types f k
    omega) (List.pairwise_iff_getElem.2 fun i j hi hj hij => by
      have hlt := List.pairwise_iff_getElem.1 (chl_rise b f p) i j hi hj hij
      have m1 := mem_chTo.1 (List.getElem_mem hi)
      have m2 := mem_chTo.1 (List.getElem_mem hj)
      have := end_rise R lo hlt m2.1 m1.2 m2.2
      have := (endOf_is b.types f m2.1).lt
      omega)
  have hcs := fold_case b f t (keyOf (tyOf b.types t) d) (chl b f p) (p + 1).toNat
  have hN : placeN b f p t d = (chl b f p).foldl (atD b f t (keyOf (tyOf b.types t) d)) (p + 1).toNat := rfl
  rw [← hN] at hge hcs
  generalize placeN b f p t d = n at *
  refine ⟨R, lo, hi, ?_, ?_, fun hn hp => ?_, fit, ht, fun hu k hk hp hty hkey => ?_⟩
  · rcases hcs with h | ⟨k, h1, h2, h3⟩
    · omega
    · rw [h3]; exact (endOf_is b.types f (mem_chTo.1 h1).1).le
  · rcases hcs with h | ⟨k, h1, h2, h3⟩
    · exact .inl (by omega)
    · exact .inr ⟨k, (mem_chTo.1 h1).1, (mem_chTo.1 h1).2, h3, h2⟩
  · cases hf : front b f t (keyOf (tyOf b.types t) d) n with
    | false => rfl
    | true =>
      have := hge.2 n (mem_chTo.2 ⟨hn, hp⟩) hf
      have := (endOf_is b.types f hn).lt
      omega
  · unfold twice at htw
    rw [List.any_eq_false] at htw
    refine htw k (mem_chTo.2 ⟨hk, hp⟩) ?_
    simp [isTwin, hty, hu, hkey]
/-- there is one place alone -/
theorem Spot.uniq {b : Base} {f : List Item} {p t : Int} {d : ByteArray} {n n' : Nat} (S : Spot b f p t d n) (S' : Spot b f p t d n') : n = n' := by
  have key : ∀ {n n' : Nat}, Spot b f p t d n → Spot b f p t d n' → ¬ n < n' := fun {n n'} S S' hlt => by
    have R := S.R
    have hg := S.gt
    rcases S'.at' with h | ⟨c', h1, h2, h3, h4⟩
    · omega
    · have he' := endOf_is b.types f h1
      have hlt' := he'.lt
      have hpc := par_lt b.types f c'
      have hge : n ≤ c' := by
        apply Classical.byContradiction
        intro hc
        rcases S.at' with h | ⟨c, g1, g2, g3, g4⟩
        · omega
        · have hc1 := (endOf_is b.types f g1).lt
          rcases Nat.lt_trichotomy c c' with e | e | e
          · have := end_rise R S.lo e h1 g2 h2; omega
          · subst e; omega
          · have := end_rise R S.lo e g1 h2 g2; omega
      have hnl : n < f.length := by omega
      have hke : c' < kidEnd b f p := by
        apply Classical.byContradiction
        intro hc
        have hm : c' ∈ chl b f p := mem_chTo.2 ⟨h1, h2⟩
        rw [kid_last R S.lo S.hi] at hm
        have := (mem_chTo.1 hm).1
        omega
      have hpn : par b.types f n = p := by
        rcases S.at' with h | ⟨c, g1, g2, g3, g4⟩
        · exact (kid_first R S.lo S.hi h).2.2.1 (by omega)
        · exact (next_child R S.lo g1 g2).2 n g3 hnl (kid_sub S.lo S.hi hg (by omega))
      have hnf := S.next hnl hpn
      by_cases e : n = c'
      · subst e; rw [h4] at hnf; cases hnf
      · have := front_mono R (show n < c' by omega) h1 hpn h2 h4
        rw [this] at hnf; cases hnf
  have h1 := key S S'
  have h2 := key S' S
  omega
end Go.Proofs.YtondenmkhfignaaDoor.Code

/- plain: a Unique leaf goes back to its place (mathematics). -/
set_option linter.unusedSimpArgs false
set_option linter.unusedVariables false
set_option linter.unusedSectionVars false
namespace Go.Proofs.YtondenmkhfignaaDoor.Code
open Go.Proofs.YtondenmkhfignaaDoor.Ev

theorem unique_key {t : Ty} (h : tyOk t = true) (hu : t.unique = true) : 0 ≤ t.key := by
  simp only [tyOk, Bool.and_eq_true] at h
  apply Classical.byContradiction
  intro hc
  have hk := h.2
  unfold keyOk at hk
  split at hk
  · rw [hu] at hk; cases hk
  · simp only [Bool.and_eq_true, decide_eq_true_eq] at hk
    exact hc hk.1
theorem uniq_ord {t : Ty} (h : tyOk t = true) (hu : t.unique = true) {a c : ByteArray} (ho : inOrd t a c = true) : bLt (keyOf t a) (keyOf t c) = true := by
  have hk := unique_key h hu
  simp only [inOrd, hu, Bool.not_true, Bool.and_false, Bool.or_false, Bool.or_eq_true, decide_eq_true_eq] at ho
  rcases ho with ho | ho
  · omega
  · exact ho
theorem lt_not {s k : ByteArray} (h : bLt s k = true) : bLt k s = false ∧ k ≠ s := by
  have := bLt_tri s k
  rw [h] at this
  simp only [Bool.true_or] at this
  refine ⟨?_, fun e => ?_⟩
  · cases hc : bLt k s with
    | false => rfl
    | true => rw [hc] at this; cases this
  · rw [e, bLt_irrefl] at h; cases h
section
variable {b : Base} {f : List Item} (R : Right b f) {i : Nat} {x : Item} (hx : f[i]? = some x) (he : endOf b.types f i = i + 1) (hu : (tyOf b.types x.type).unique = true)
include R hx he hu
end
end Go.Proofs.YtondenmkhfignaaDoor.Code

/- TopForest: paths, ends and full keys of a forest (mathematics). -/
set_option linter.unusedSimpArgs false
set_option linter.unusedVariables false
namespace Go.Proofs.YtondenmkhfignaaDoor.Code
open Go.Proofs.YtondenmkhfignaaDoor.Ev

/-- an item is in the subtrees of just its path -/
theorem pth_sub {b : Base} {f : List Item} (h : Right b f) {i k : Nat} (hi : i < f.length) (hk : k < f.length) : (k : Int) ∈ pth b.types f i ↔ k ≤ i ∧ i < endOf b.types f k := by
  have E := endOf_is b.types f hk
  constructor
  · intro hm
    have hle : k ≤ i := by have := (pth_bound hm).2; omega
    refine ⟨hle, ?_⟩
    apply Classical.byContradiction
    intro hc
    have := E.lt
    exact E.no (by omega) (way_between (Nat.le_refl _) h.ok i hi _ hm (endOf b.types f k) (by omega) (by omega))
  · rintro ⟨h1, h2⟩
    rcases Nat.eq_or_lt_of_le h1 with rfl | h1
    · exact pth_self ..
    · exact E.all i h1 h2
/-- the end of what is below is at most that of what is above -/
theorem end_sub {b : Base} {f : List Item} (h : Right b f) {i k : Nat} (hi : i < f.length) (hk : k < f.length) (hm : (k : Int) ∈ pth b.types f i) : endOf b.types f i ≤ endOf b.types f k := by
  have E := endOf_is b.types f hk
  have F := endOf_is b.types f hi
  have h2 := (pth_sub h hi hk).1 hm
  have := F.le
  apply Classical.byContradiction
  intro hc
  exact E.no (by omega) (anc_trans _ (F.all _ (by omega) (by omega)) hm)
/-- the types on a path -/
theorem pth_typ {b : Base} {f : List Item} (h : Right b f) : ∀ (n i : Nat), i ≤ n → i < f.length → ∀ a ∈ pth b.types f i, typ f a ∈ anc b.types (typ f (i : Int)).toNat := by
  intro n
  induction n with
  | zero =>
    intro i hn hi a ha
    have := pth_bound ha
    have : a = (i : Int) := by omega
    subst this
    obtain ⟨k, e, _⟩ := typ_nat h hi
    rw [e, Int.toNat_natCast]
    exact anc_self ..
  | succ n ih =>
    intro i hn hi a ha
    obtain ⟨x, k, t, hx, hk, hkl, ht, _⟩ := h.item hi
    have e : typ f (i : Int) = (k : Int) := by rw [typ_at hx, hk]
    rw [e, Int.toNat_natCast]
    rw [pth_eq b.types f hi, List.mem_append, List.mem_singleton] at ha
    rcases ha with ha | rfl
    · rcases h.par hx hk ht with ⟨_, h1, _⟩ | ⟨p, h1, h2, _, h4, h5, h6⟩
      · rw [h1] at ha
        cases ha
      · rw [h1, pthI_nat] at ha
        have := ih p (by omega) (by omega) a ha
        rw [h6] at this
        rw [anc_up ht (p := t.parent.toNat) (by omega) (by omega)]
        exact List.mem_append_left _ this
    · rw [e]
      exact anc_self ..
/-- siblings of a Unique type have keys of their own -/
theorem sib_one {b : Base} {f : List Item} (h : Right b f) {i k : Nat} (hik : i < k) (hk : k < f.length) (hp : par b.types f i = par b.types f k) (ht : typ f (i : Int) = typ f (k : Int)) (hu : (tyOf b.types (typ f (i : Int))).unique = true) (hkey : keyA b f (i : Int) = keyA b f (k : Int)) : False := by
  obtain ⟨y, m, t, hy, hm, _, hty, hok, _⟩ := h.item hk
  have ho := sib_ord h hik hp rfl hy
  have e := typ_at hy
  have et : tyOf b.types y.type = t := by rw [hm, tyOf_at hty]
  simp only [ordOk, Bool.or_eq_true, Bool.and_eq_true, decide_eq_true_eq] at ho
  unfold keyA at hkey
  rw [ht, e, et] at hu
  rw [ht, e, et, dat_at hy] at hkey
  rcases ho with ho | ⟨_, ho⟩
  · omega
  · rw [et] at ho
    exact (lt_not (uniq_ord hok hu ho)).2 hkey.symm
/-- items with the same type and the same full key are one, where the types of the way are Unique -/
theorem key_one {b : Base} {f : List Item} (h : Right b f) : ∀ (n i k : Nat), i ≤ n → i < f.length → k < f.length → typ f (i : Int) = typ f (k : Int) → fkL b f i = fkL b f k → (∀ a ∈ pth b.types f i, (tyOf b.types (typ f a)).unique = true) → i = k := by
  intro n
  induction n with
  | zero =>
    intro i k hn hi hk ht hf hu
    have e : i = 0 := by omega
    subst e
    apply Classical.byContradiction
    intro hne
    obtain ⟨x, m, t, hx, hm, _, hty, _⟩ := h.item hi
    obtain ⟨y, _, _, hy, _⟩ := h.item hk
    have e2 : y.type = (m : Int) := by rw [← typ_at hy, ← ht, typ_at hx, hm]
    rcases h.par hx hm hty with ⟨h0, h1, _⟩ | ⟨p, h1, h2, _⟩
    · rcases h.par hy e2 hty with ⟨_, h3, _⟩ | ⟨p, _, _, _, h4, _⟩
      · have hs : keyA b f ((0 : Nat) : Int) = keyA b f (k : Int) := by
          unfold fkL at hf
          rw [pth_eq b.types f hi, pth_eq b.types f hk, h1, h3] at hf
          simpa [pthI_neg] using hf
        exact sib_one h (by omega) hk (by rw [h1, h3]) ht (hu _ (pth_self ..)) hs
      · omega
    · omega
  | succ n ih =>
    intro i k hn hi hk ht hf hu
    obtain ⟨x, m, t, hx, hm, _, hty, _⟩ := h.item hi
    obtain ⟨y, _, _, hy, _⟩ := h.item hk
    have e2 : y.type = (m : Int) := by rw [← typ_at hy, ← ht, typ_at hx, hm]
    have hf0 := hf
    unfold fkL at hf
    rw [pth_eq b.types f hi, pth_eq b.types f hk, List.map_append, List.map_append] at hf
    obtain ⟨hf1, hf2⟩ := List.append_inj' hf rfl
    simp only [List.map_cons, List.map_nil, List.cons.injEq, and_true] at hf2
    have hpp : par b.types f i = par b.types f k := by
      rcases h.par hx hm hty with ⟨h0, h1, _⟩ | ⟨p, h1, h2, _, h4, h5, h6⟩
      · rcases h.par hy e2 hty with ⟨_, h3, _⟩ | ⟨p, _, _, _, h4, _⟩
        · rw [h1, h3]
        · omega
      · rcases h.par hy e2 hty with ⟨_, h3, _⟩ | ⟨q, h7, h8, _, _, _, h9⟩
        · omega
        · rw [h1, h7, pthI_nat, pthI_nat] at hf1
          have := ih p q (by omega) (by omega) (by omega) (by rw [h6, h9]) hf1 fun a ha => hu a (by
            rw [pth_eq b.types f hi, h1, pthI_nat]
            exact List.mem_append_left _ ha)
          rw [h1, h7, this]
    apply Classical.byContradiction
    intro hne
    rcases Nat.lt_or_gt_of_ne hne with hlt | hlt
    · exact sib_one h hlt hk hpp ht (hu _ (pth_self ..)) hf2
    · exact sib_one h hlt hi hpp.symm ht.symm (by rw [← ht]; exact hu _ (pth_self ..)) hf2.symm
end Go.Proofs.YtondenmkhfignaaDoor.Code

