/- plain: Replace, of the program and of the document. -/
import Derived.Test.YtcbmakanokmdjaaSe
set_option linter.unusedSimpArgs false
set_option linter.unusedVariables false
namespace Go.Proofs.Ytcbmakanokmdjaa.Code
open Go.Proofs.Ytcbmakanokmdjaa.Ev

/-- data that may take the place of others -/
def mayR (b : Base) (x : Item) (d : ByteArray) : Bool := fits b.types ⟨x.type, d⟩ && decide (keyOf (tyOf b.types x.type) d = keyOf (tyOf b.types x.type) x.data)
noncomputable def repE (b : Base) (f : List Item) (i : Int) (d : ByteArray) : Int := if errF b f [i] = 0 then (match f[i.toNat]? with
  | some x => if mayR b x d = true then 0 else 2
  | none => 2) else errF b f [i]
noncomputable def repL (b : Base) (f : List Item) (i : Int) (d : ByteArray) : List Item := if repE b f i d = 0 then f.set i.toNat ⟨typ f i, d⟩ else []
theorem rep_blk {f : List Item} {i : Nat} {x : Item} (hx : f[i]? = some x) (d : ByteArray) (H : Heap) (n : Nat) (hn : H[n]? = some ⟨0, true, 50, 2, (f.map rItem).set i [.int .i64 x.type, .str d]⟩) : ∃ ids, fz H fzDepth (.ref n 0 2 0 f.length) = some (.lst ((f.set i ⟨x.type, d⟩).map rItem), ids) ∧ ∀ z ∈ ids, z = n := by
  refine fz_blk (k := ⟨0, true, 50, 2, (f.map rItem).set i [.int .i64 x.type, .str d]⟩) (by simp [curBlk, hn]) ?_ (plain_items _) 6
  rw [List.take_of_length_le (by simp), List.map_set]
  rfl
theorem f17 (b : Base) (hb : b.Ok) (f : List Item) (hfl : f.length < 9223372036854775807) (i : Int) (d : ByteArray) (H : Heap) : cal (evC cprog) true 17 [eBase b, eItems f, .int .i64 i, .str d] H = some (eLE (repL b f i d) (repE b f i d), H) := by
  rw [cal_of at17]
  have h37 := f37 b hb f (.ref (H.length + 1) 0 1 0 1) rfl [i] (by simp) (H ++ [bBase b, bI i]) (one_slat H i [bBase b])
  simp only [eBase, bBase, bI] at h37
  by_cases he : errF b f [i] = 0
  · obtain ⟨hr, ho⟩ := errF_zero hb he
    obtain ⟨h0, h1⟩ := ho i (by simp)
    obtain ⟨i, rfl⟩ : ∃ j : Nat, i = (j : Int) := ⟨i.toNat, by omega⟩
    have hi : i < f.length := by omega
    have hl := hr.len
    obtain ⟨x, k, t, hx, hk, hkl, ht, hty, hmin, hmax⟩ := hr.item hi
    have ha := aItem hx
    have hat := aTy ht
    rw [← hk] at hat
    have h42 := f42 b ⟨x.type, d⟩
    simp only [eBase, rItem] at h42
    have h39 := f39 hi (by omega)
    have htyo : tyOf b.types x.type = t := by rw [hk, tyOf_at ht]
    rw [he] at h37
    have hrow : (f.map rItem)[i]? = some (rItem x) := by rw [List.getElem?_map, hx]; rfl
    have hrep : repE b f (i : Int) d = if mayR b x d = true then 0 else 2 := by unfold repE; rw [if_pos he, Int.toNat_natCast, hx]
    have h43b := f43 t hty x.data hmin
    simp only [rTy] at h43b
    cases hf : fits b.types ⟨x.type, d⟩ with
    | false =>
      have hm : repE b f (i : Int) d = 2 := by rw [hrep]; simp [mayR, hf]
      rw [hm, show repL b f (i : Int) d = [] from if_neg (by omega)]
      simp only [c17, eBase, cells_eItems, isTup_eItems, h37, ha, rItem, h42, hf, evX, Int.reduceEq, Int.reduceLT, Int.reduceLE, Nat.reduceMul, Nat.reduceMod, evW, fn_eq, evR, Nat.reduceAdd, Nat.reduceLT, Nat.reduceLeDiff, reduceIte, Nat.reduceEqDiff, reduceCtorEq, argEnv, eq_self, if_true, if_false]
      repeat' ((first | rw [guardK_cases] | rw [condK_bool] | rw [guardD_cases]); split <;> simp only [c17, eBase, cells_eItems, isTup_eItems, h37, ha, rItem, h42, hf, evX, Int.reduceEq, Int.reduceLT, Int.reduceLE, Nat.reduceMul, Nat.reduceMod, evW, evR, Nat.reduceAdd, Nat.reduceLT, Nat.reduceLeDiff, reduceIte, Nat.reduceEqDiff, reduceCtorEq, argEnv, eq_self, if_true, if_false, *])
      exact frz_two (fz_nils _) rfl (by simp) (by simp) _ _
    | true =>
      have hd : t.min ≤ (d.size : Int) := by
        rw [fits_at (x := ⟨x.type, d⟩) hk ht] at hf
        simp only [Bool.and_eq_true, decide_eq_true_eq] at hf
        exact hf.1
      have h43a := f43 t hty d hd
      simp only [rTy] at h43a
      by_cases hkey : keyOf t d = keyOf t x.data
      · have hm : repE b f (i : Int) d = 0 := by rw [hrep, if_pos (by simp [mayR, hf, htyo, hkey])]
        have hL : repL b f (i : Int) d = f.set i ⟨x.type, d⟩ := by unfold repL; rw [if_pos hm, Int.toNat_natCast, typ_at hx]
        rw [hm, hL]
        simp only [c17, eBase, cells_eItems, isTup_eItems, h37, ha, hat, rItem, rTy, h42, hf, h43a, h43b, hkey, h39, hi, hrow, beqO_same, evX, Int.reduceEq, Int.reduceLT, Int.reduceLE, Nat.reduceMul, Nat.reduceMod, evW, fn_eq, evR, Nat.reduceAdd, Nat.reduceLT, Nat.reduceLeDiff, reduceIte, Nat.reduceEqDiff, reduceCtorEq, argEnv, eq_self, if_true, if_false]
        repeat' ((first | rw [guardK_cases] | rw [condK_bool] | rw [guardD_cases]); split <;> simp only [c17, eBase, cells_eItems, isTup_eItems, h37, ha, hat, rItem, rTy, h42, hf, h43a, h43b, hkey, h39, hi, hrow, beqO_same, evX, Int.reduceEq, Int.reduceLT, Int.reduceLE, Nat.reduceMul, Nat.reduceMod, evW, evR, Nat.reduceAdd, Nat.reduceLT, Nat.reduceLeDiff, reduceIte, Nat.reduceEqDiff, reduceCtorEq, argEnv, eq_self, if_true, if_false, *])
        obtain ⟨ids, g1, g2⟩ := rep_blk hx d (H ++ [bBase b, bI (i : Int), ⟨0, true, 50, 2, (f.map rItem).set i [.int .i64 x.type, .str d]⟩]) (H.length + 2) (by simp)
        exact frz_two (ids := ids) (by simpa [bBase, bI] using g1) rfl (by simp) (fun z hz => by have := g2 z hz; omega) _ _
      · have hm : repE b f (i : Int) d = 2 := by rw [hrep, if_neg (by simp [mayR, htyo, hkey])]
        rw [hm, show repL b f (i : Int) d = [] from if_neg (by omega)]
        simp only [c17, eBase, cells_eItems, isTup_eItems, h37, ha, hat, rItem, rTy, h42, hf, h43a, h43b, hkey, evX, Int.reduceEq, Int.reduceLT, Int.reduceLE, Nat.reduceMul, Nat.reduceMod, evW, fn_eq, evR, Nat.reduceAdd, Nat.reduceLT, Nat.reduceLeDiff, reduceIte, Nat.reduceEqDiff, reduceCtorEq, argEnv, eq_self, if_true, if_false]
        repeat' ((first | rw [guardK_cases] | rw [condK_bool] | rw [guardD_cases]); split <;> simp only [c17, eBase, cells_eItems, isTup_eItems, h37, ha, hat, rItem, rTy, h42, hf, h43a, h43b, hkey, evX, Int.reduceEq, Int.reduceLT, Int.reduceLE, Nat.reduceMul, Nat.reduceMod, evW, evR, Nat.reduceAdd, Nat.reduceLT, Nat.reduceLeDiff, reduceIte, Nat.reduceEqDiff, reduceCtorEq, argEnv, eq_self, if_true, if_false, *])
        exact frz_two (fz_nils _) rfl (by simp) (by simp) _ _
  · have hm : repE b f i d = errF b f [i] := if_neg he
    rw [hm, show repL b f i d = [] from if_neg (by rw [hm]; exact he)]
    simp only [c17, eBase, cells_eItems, isTup_eItems, h37, he, evX, Int.reduceEq, Int.reduceLT, Int.reduceLE, Nat.reduceMul, Nat.reduceMod, evW, fn_eq, evR, Nat.reduceAdd, Nat.reduceLT, Nat.reduceLeDiff, reduceIte, Nat.reduceEqDiff, reduceCtorEq, argEnv, eq_self, if_true, if_false]
    repeat' ((first | rw [guardK_cases] | rw [condK_bool] | rw [guardD_cases]); split <;> simp only [c17, eBase, cells_eItems, isTup_eItems, h37, he, evX, Int.reduceEq, Int.reduceLT, Int.reduceLE, Nat.reduceMul, Nat.reduceMod, evW, evR, Nat.reduceAdd, Nat.reduceLT, Nat.reduceLeDiff, reduceIte, Nat.reduceEqDiff, reduceCtorEq, argEnv, eq_self, if_true, if_false, *])
    exact frz_two (fz_nils _) rfl (by simp) (by simp) _ _
theorem f18 (b : Base) (hb : b.Ok) (f : List Item) (hfl : f.length < 9223372036854775807) (i : Int) (d : ByteArray) (H : Heap) : cal (evC cprog) true 18 [eBase b, eItems f, .int .i64 i, .str d] H = some (eLE (repL b f i d) (repE b f i d), H) := by
  rw [cal_of at18]
  have h22 := f22 b hb f hfl (.ref (H.length + 1) 0 1 0 1) [i] (by simp) (H ++ [bBase b, bI i]) (one_slat H i [bBase b])
  simp only [eBase, bBase, bI] at h22
  by_cases he : errF b f [i] = 0
  · obtain ⟨hr, ho⟩ := errF_zero hb he
    obtain ⟨h0, h1⟩ := ho i (by simp)
    obtain ⟨i, rfl⟩ : ∃ j : Nat, i = (j : Int) := ⟨i.toNat, by omega⟩
    have hi : i < f.length := by omega
    have hl := hr.len
    obtain ⟨x, k, t, hx, hk, hkl, ht, hty, hmin, hmax⟩ := hr.item hi
    have ha := aItem hx
    have h44 := f44 b hb hr.valid k t ht hty d
    rw [← hk] at h44
    simp only [eBase] at h44
    have h45 := f45 b x k t hk ht hty hmin
    simp only [eBase, rItem] at h45
    have htyo : tyOf b.types x.type = t := by rw [hk, tyOf_at ht]
    rw [he] at h22
    have hrow : (f.map rItem)[i]? = some (rItem x) := by rw [List.getElem?_map, hx]; rfl
    have hrep : repE b f (i : Int) d = if mayR b x d = true then 0 else 2 := by unfold repE; rw [if_pos he, Int.toNat_natCast, hx]
    cases hf : fits b.types ⟨x.type, d⟩ with
    | false =>
      rw [hf] at h44
      simp only [Bool.false_eq_true, if_false] at h44
      have hm : repE b f (i : Int) d = 2 := by rw [hrep]; simp [mayR, hf]
      rw [hm, show repL b f (i : Int) d = [] from if_neg (by omega)]
      simp only [c18, eBase, h22, ha, rItem, h44, evX, Int.reduceEq, Int.reduceLT, Int.reduceLE, Nat.reduceMul, Nat.reduceMod, evW, fn_eq, evR, Nat.reduceAdd, Nat.reduceLT, Nat.reduceLeDiff, reduceIte, Nat.reduceEqDiff, reduceCtorEq, argEnv, eq_self, if_true, if_false]
      repeat' ((first | rw [guardK_cases] | rw [condK_bool] | rw [guardD_cases]); split <;> simp only [c18, eBase, h22, ha, rItem, h44, evX, Int.reduceEq, Int.reduceLT, Int.reduceLE, Nat.reduceMul, Nat.reduceMod, evW, evR, Nat.reduceAdd, Nat.reduceLT, Nat.reduceLeDiff, reduceIte, Nat.reduceEqDiff, reduceCtorEq, argEnv, eq_self, if_true, if_false, *])
      exact frz_two (fz_nils _) rfl (by simp) (by simp) _ _
    | true =>
      rw [hf] at h44
      simp only [if_true] at h44
      by_cases hkey : keyOf t d = keyOf t x.data
      · have hm : repE b f (i : Int) d = 0 := by rw [hrep, if_pos (by simp [mayR, hf, htyo, hkey])]
        have hL : repL b f (i : Int) d = f.set i ⟨x.type, d⟩ := by unfold repL; rw [if_pos hm, Int.toNat_natCast, typ_at hx]
        have happ : appK 50 2 24 false (H ++ [bBase b, bI (i : Int)]) (some .nil0) (some (eItems f)) = some (.ref (H.length + 2) 0 2 0 f.length, H ++ [bBase b, bI (i : Int), ⟨0, true, 50, 2, f.map rItem⟩]) := by
          obtain ⟨y, ys, rfl⟩ := items_ne hi
          have := app_nil0 (ty := 50) (sz := 2) (bytes := 24) (H := H ++ [bBase b, bI (i : Int)]) (a := eItems (y :: ys)) (src := (y :: ys).map rItem) rfl (by simp) (headOk_map rItem (fun _ => rfl) _) (by simp [reach] at *; omega)
          simpa using this
        simp only [bBase, bI] at happ
        rw [hm, hL]
        simp only [c18, eBase, h22, ha, rItem, h44, h45, hkey, happ, hi, hrow, evX, Int.reduceEq, Int.reduceLT, Int.reduceLE, Nat.reduceMul, Nat.reduceMod, evW, fn_eq, evR, Nat.reduceAdd, Nat.reduceLT, Nat.reduceLeDiff, reduceIte, Nat.reduceEqDiff, reduceCtorEq, argEnv, eq_self, if_true, if_false]
        repeat' ((first | rw [guardK_cases] | rw [condK_bool] | rw [guardD_cases]); split <;> simp only [c18, eBase, h22, ha, rItem, h44, h45, hkey, happ, hi, hrow, evX, Int.reduceEq, Int.reduceLT, Int.reduceLE, Nat.reduceMul, Nat.reduceMod, evW, evR, Nat.reduceAdd, Nat.reduceLT, Nat.reduceLeDiff, reduceIte, Nat.reduceEqDiff, reduceCtorEq, argEnv, eq_self, if_true, if_false, *])
        obtain ⟨ids, g1, g2⟩ := rep_blk hx d (H ++ [bBase b, bI (i : Int), ⟨0, true, 50, 2, (f.map rItem).set i [.int .i64 x.type, .str d]⟩]) (H.length + 2) (by simp)
        exact frz_two (ids := ids) (by simpa [bBase, bI] using g1) rfl (by simp) (fun z hz => by have := g2 z hz; omega) _ _
      · have hm : repE b f (i : Int) d = 2 := by rw [hrep, if_neg (by simp [mayR, htyo, hkey])]
        rw [hm, show repL b f (i : Int) d = [] from if_neg (by omega)]
        simp only [c18, eBase, h22, ha, rItem, h44, h45, hkey, evX, Int.reduceEq, Int.reduceLT, Int.reduceLE, Nat.reduceMul, Nat.reduceMod, evW, fn_eq, evR, Nat.reduceAdd, Nat.reduceLT, Nat.reduceLeDiff, reduceIte, Nat.reduceEqDiff, reduceCtorEq, argEnv, eq_self, if_true, if_false]
        repeat' ((first | rw [guardK_cases] | rw [condK_bool] | rw [guardD_cases]); split <;> simp only [c18, eBase, h22, ha, rItem, h44, h45, hkey, evX, Int.reduceEq, Int.reduceLT, Int.reduceLE, Nat.reduceMul, Nat.reduceMod, evW, evR, Nat.reduceAdd, Nat.reduceLT, Nat.reduceLeDiff, reduceIte, Nat.reduceEqDiff, reduceCtorEq, argEnv, eq_self, if_true, if_false, *])
        exact frz_two (fz_nils _) rfl (by simp) (by simp) _ _
  · have hm : repE b f i d = errF b f [i] := if_neg he
    rw [hm, show repL b f i d = [] from if_neg (by rw [hm]; exact he)]
    simp only [c18, eBase, h22, he, evX, Int.reduceEq, Int.reduceLT, Int.reduceLE, Nat.reduceMul, Nat.reduceMod, evW, fn_eq, evR, Nat.reduceAdd, Nat.reduceLT, Nat.reduceLeDiff, reduceIte, Nat.reduceEqDiff, reduceCtorEq, argEnv, eq_self, if_true, if_false]
    repeat' ((first | rw [guardK_cases] | rw [condK_bool] | rw [guardD_cases]); split <;> simp only [c18, eBase, h22, he, evX, Int.reduceEq, Int.reduceLT, Int.reduceLE, Nat.reduceMul, Nat.reduceMod, evW, evR, Nat.reduceAdd, Nat.reduceLT, Nat.reduceLeDiff, reduceIte, Nat.reduceEqDiff, reduceCtorEq, argEnv, eq_self, if_true, if_false, *])
    exact frz_two (fz_nils _) rfl (by simp) (by simp) _ _
end Go.Proofs.Ytcbmakanokmdjaa.Code
