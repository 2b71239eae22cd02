/- plain: Delete, of the program and of the document. -/
import Derived.Test.YtcbmakanokmdjaaSc
import Derived.Test.YtcbmakanokmdjaaEvZ
set_option linter.unusedSimpArgs false
set_option linter.unusedVariables false
namespace Go.Proofs.Ytcbmakanokmdjaa.Code
open Go.Proofs.Ytcbmakanokmdjaa.Ev

theorem plain_items (l : List Item) : Plain (l.map rItem) := fz_rItem l
theorem plain_ints (l : List Int) : Plain (l.map rI) := fz_rI l
def eLE (l : List Item) (e : Int) : AV := .tup [eItems l, .int .i64 e]
theorem errF_zero {b : Base} {f : List Item} {l : List Int} (hb : b.Ok) (h : errF b f l = 0) : Right b f ∧ ∀ i ∈ l, 0 ≤ i ∧ i < (f.length : Int) := by
  unfold errF at h
  split at h
  · rename_i hv
    split at h
    · rename_i hf
      split at h
      · cases h
      · rename_i ho
        refine ⟨⟨hb, hv, hf⟩, fun i hi => ?_⟩
        have := List.any_eq_false.1 (Bool.eq_false_iff.2 ho) i hi
        simp only [outOf, Bool.or_eq_true, decide_eq_true_eq] at this
        omega
    · cases h
  · cases h
noncomputable def delR (b : Base) (f : List Item) (i : Int) : List Item := if errF b f [i] = 0 then f.take i.toNat ++ f.drop (endOf b.types f i.toNat) else []
theorem one_slat (H : Heap) (n : Int) (X : Heap) : SlAt (H ++ (X ++ [⟨0, true, 3, 1, [[.int .i64 n]]⟩])) 1 (.ref (H.length + X.length) 0 1 0 1) ([n].map rI) := by
  refine .ref (rows := [rI n]) (k := ⟨0, true, 3, 1, [[.int .i64 n]]⟩) ?_ fun i row hi => ?_
  · simp [curBlk, at_app]
  · cases i with
    | zero => simp at hi; subst hi; exact ⟨rfl, rfl⟩
    | succ i => simp at hi
theorem items_ne {f : List Item} {i : Nat} (h : i < f.length) : ∃ y ys, f = y :: ys := by
  cases f with
  | nil => simp at h
  | cons y ys => exact ⟨y, ys, rfl⟩
theorem f39 {f : List Item} {i : Nat} (h : i < f.length) (hl : f.length ≤ 1000) (H : Heap) : cal (evC cprog) false 39 [eItems f] H = some (.ref H.length 0 2 0 f.length, H ++ [⟨0, true, 50, 2, f.map rItem⟩]) := by
  obtain ⟨y, ys, rfl⟩ := items_ne h
  have := clone_lst (ty := 50) (sz := 2) (bytes := 24) at39 (rItem y) (ys.map rItem) H rfl (by simp [reach] at *; omega)
  rw [List.length_map] at this
  exact this
def zItem : List AV := [.int .i64 0, .str ⟨#[]⟩]
theorem f15 (b : Base) (hb : b.Ok) (f : List Item) (hfl : f.length < 9223372036854775807) (i : Int) (H : Heap) : cal (evC cprog) true 15 [eBase b, eItems f, .int .i64 i] H = some (eLE (delR b f i) (errF b f [i]), H) := by
  rw [cal_of at15]
  have h37 := f37 b hb f (.ref (H.length + 1) 0 1 0 1) rfl [i] (by simp) (H ++ [bBase b, bI i]) (one_slat H i [bBase b])
  simp only [eBase, bBase, bI] at h37
  by_cases he : errF b f [i] = 0
  · obtain ⟨hr, ho⟩ := errF_zero hb he
    obtain ⟨h0, h1⟩ := ho i (by simp)
    obtain ⟨i, rfl⟩ : ∃ j : Nat, i = (j : Int) := ⟨i.toNat, by omega⟩
    have hi : i < f.length := by omega
    have hl := hr.len
    have h39 := f39 hi (by omega)
    have h40 := f40 b f hr i hi
    simp only [eBase] at h40
    have hend := endOf_is b.types f hi
    have h38 := delete_ref (ty := 50) (sz := 2) (bytes := 24) (zero := zItem) at38 rfl (H.length + 2) 0 (f.map rItem) (fun r hr => by obtain ⟨_, _, rfl⟩ := List.mem_map.1 hr; rfl) (H ++ [bBase b, bI i, ⟨0, true, 50, 2, f.map rItem⟩]) (by simp) i (endOf b.types f i) hend.lt (by rw [List.length_map]; exact hend.le)
    simp only [bBase, bI, List.length_map] at h38
    rw [he] at h37
    have hd : delR b f (i : Int) = f.take i ++ f.drop (endOf b.types f i) := by unfold delR; rw [if_pos he, Int.toNat_natCast]
    rw [hd, he]
    simp only [c15, eBase, cells_eItems, isTup_eItems, h37, h39, h40, h38, evX, Int.reduceEq, Int.reduceLT, Int.reduceLE, Nat.reduceMul, Nat.reduceMod, evW, fn_eq, evR, Nat.reduceAdd, Nat.reduceLT, Nat.reduceLeDiff, reduceIte, Nat.reduceEqDiff, reduceCtorEq, argEnv, eq_self, if_true, if_false]
    repeat' ((first | rw [guardK_cases] | rw [condK_bool] | rw [guardD_cases]); split <;> simp only [c15, eBase, cells_eItems, isTup_eItems, h37, h39, h40, h38, evX, Int.reduceEq, Int.reduceLT, Int.reduceLE, Nat.reduceMul, Nat.reduceMod, evW, evR, Nat.reduceAdd, Nat.reduceLT, Nat.reduceLeDiff, reduceIte, Nat.reduceEqDiff, reduceCtorEq, argEnv, eq_self, if_true, if_false, *])
    have hle := hend.le
    have hlt := hend.lt
    have hrows : (f.map rItem).take i ++ (f.map rItem).drop (endOf b.types f i) = (f.take i ++ f.drop (endOf b.types f i)).map rItem := by simp
    have hlen : (f.take i ++ f.drop (endOf b.types f i)).length = i + (f.length - endOf b.types f i) := by simp; omega
    obtain ⟨ids, g1, g2⟩ := fz_blk (H := H ++ [bBase b, bI i, ⟨0, true, 50, 2, (f.map rItem).take i ++ ((f.map rItem).drop (endOf b.types f i) ++ List.replicate (endOf b.types f i - i) zItem)⟩]) (b := H.length + 2) (v := 0) (sz := 2) (len := i + (f.length - endOf b.types f i))
      (k := ⟨0, true, 50, 2, (f.map rItem).take i ++ ((f.map rItem).drop (endOf b.types f i) ++ List.replicate (endOf b.types f i - i) zItem)⟩) (by simp [curBlk]) (rows := (f.take i ++ f.drop (endOf b.types f i)).map rItem) (by
        rw [← List.append_assoc, hrows, List.take_left' (by rw [List.length_map]; exact hlen)]) (plain_items _) 6
    exact frz_two (ids := ids) g1 rfl (by simp) (fun x hx => by have := g2 x hx; omega) _ _
  · rw [show delR b f i = [] from if_neg he]
    simp only [c15, eBase, cells_eItems, isTup_eItems, h37, he, evX, Int.reduceEq, Int.reduceLT, Int.reduceLE, Nat.reduceMul, Nat.reduceMod, evW, fn_eq, evR, Nat.reduceAdd, Nat.reduceLT, Nat.reduceLeDiff, reduceIte, Nat.reduceEqDiff, reduceCtorEq, argEnv, eq_self, if_true, if_false]
    repeat' ((first | rw [guardK_cases] | rw [condK_bool] | rw [guardD_cases]); split <;> simp only [c15, eBase, cells_eItems, isTup_eItems, h37, he, evX, Int.reduceEq, Int.reduceLT, Int.reduceLE, Nat.reduceMul, Nat.reduceMod, evW, evR, Nat.reduceAdd, Nat.reduceLT, Nat.reduceLeDiff, reduceIte, Nat.reduceEqDiff, reduceCtorEq, argEnv, eq_self, if_true, if_false, *])
    exact frz_two (fz_nils _) rfl (by simp) (by simp) _ _
theorem slcI {H : Heap} (f : List Item) {lo hi : Nat} (h1 : lo ≤ hi) (h2 : hi ≤ f.length) : evSlc H 2 (eItems f) (some lo) (some hi) none = some (eItems ((f.take hi).drop lo)) := by
  unfold eItems
  simp [evSlc, headOk_map (sz := 2) rItem (fun _ => rfl) f, h1, h2]
theorem f16 (b : Base) (hb : b.Ok) (f : List Item) (hfl : f.length < 9223372036854775807) (i : Int) (H : Heap) : cal (evC cprog) true 16 [eBase b, eItems f, .int .i64 i] H = some (eLE (delR b f i) (errF b f [i]), H) := by
  rw [cal_of at16]
  have h22 := f22 b hb f hfl (.ref (H.length + 1) 0 1 0 1) [i] (by simp) (H ++ [bBase b, bI i]) (one_slat H i [bBase b])
  simp only [eBase, bBase, bI] at h22
  by_cases he : errF b f [i] = 0
  · obtain ⟨hr, ho⟩ := errF_zero hb he
    obtain ⟨h0, h1⟩ := ho i (by simp)
    obtain ⟨i, rfl⟩ : ∃ j : Nat, i = (j : Int) := ⟨i.toNat, by omega⟩
    have hi : i < f.length := by omega
    have hl := hr.len
    have h41 := f41 b f hr i hi
    simp only [eBase] at h41
    have hend := endOf_is b.types f hi
    have hle := hend.le
    have hlt := hend.lt
    rw [he] at h22
    have hd : delR b f (i : Int) = f.take i ++ f.drop (endOf b.types f i) := by unfold delR; rw [if_pos he, Int.toNat_natCast]
    have hs1 := fun H => slc_take rItem (sz := 2) (fun _ => rfl) H f (i := i) (by omega)
    have hs2 := fun H => slc_drop rItem (sz := 2) (fun _ => rfl) H f (i := endOf b.types f i) hle
    change ∀ H, evSlc H 2 (eItems f) _ _ _ = _ at hs1
    change ∀ H, evSlc H 2 (eItems f) _ _ _ = _ at hs2
    have hit : ∀ l : List Item, ∀ r ∈ l.map rItem, r.length = 2 := fun l r hr => by obtain ⟨_, _, rfl⟩ := List.mem_map.1 hr; rfl
    obtain ⟨rv1, X1, a1, a2, a3⟩ := (Out.nil0 (H ++ [bBase b, bI i]).length 2 50 []).app (H ++ [bBase b, bI i]) rfl 24 (.lst ((f.take i).map rItem)) _ rfl (hit _) (by simp [reach]; omega)
    obtain ⟨rv2, X2, b1, b2, b3⟩ := a3.app (H ++ [bBase b, bI i]) rfl 24 (.lst ((f.drop (endOf b.types f i)).map rItem)) _ rfl (hit _) (by simp [reach]; omega)
    simp only [List.append_assoc, List.append_nil, List.cons_append, List.nil_append, bBase, bI] at a1 b1
    rw [hd, he]
    simp only [c16, eBase, h22, h41, hs1, hs2, a1, a2, b1, b2, evX, Int.reduceEq, Int.reduceLT, Int.reduceLE, Nat.reduceMul, Nat.reduceMod, evW, fn_eq, evR, Nat.reduceAdd, Nat.reduceLT, Nat.reduceLeDiff, reduceIte, Nat.reduceEqDiff, reduceCtorEq, argEnv, eq_self, if_true, if_false]
    repeat' ((first | rw [guardK_cases] | rw [condK_bool] | rw [guardD_cases]); split <;> simp only [c16, eBase, h22, h41, hs1, hs2, a1, a2, b1, b2, evX, Int.reduceEq, Int.reduceLT, Int.reduceLE, Nat.reduceMul, Nat.reduceMod, evW, evR, Nat.reduceAdd, Nat.reduceLT, Nat.reduceLeDiff, reduceIte, Nat.reduceEqDiff, reduceCtorEq, argEnv, eq_self, if_true, if_false, *])
    rw [List.nil_append, ← List.map_append] at b3
    obtain ⟨ids, g1, g2, g3⟩ := fz_out' b3 (H ++ [bBase b, bI i]) rfl (plain_items _)
    refine frz_two (ids := ids) (by simpa [bBase, bI] using g1) g3 (by simp) (fun x hx => by have := g2 x hx; simp at this; omega) _ _
  · rw [show delR b f i = [] from if_neg he]
    simp only [c16, eBase, h22, he, evX, Int.reduceEq, Int.reduceLT, Int.reduceLE, Nat.reduceMul, Nat.reduceMod, evW, fn_eq, evR, Nat.reduceAdd, Nat.reduceLT, Nat.reduceLeDiff, reduceIte, Nat.reduceEqDiff, reduceCtorEq, argEnv, eq_self, if_true, if_false]
    repeat' ((first | rw [guardK_cases] | rw [condK_bool] | rw [guardD_cases]); split <;> simp only [c16, eBase, h22, he, evX, Int.reduceEq, Int.reduceLT, Int.reduceLE, Nat.reduceMul, Nat.reduceMod, evW, evR, Nat.reduceAdd, Nat.reduceLT, Nat.reduceLeDiff, reduceIte, Nat.reduceEqDiff, reduceCtorEq, argEnv, eq_self, if_true, if_false, *])
    exact frz_two (fz_nils _) rfl (by simp) (by simp) _ _
end Go.Proofs.Ytcbmakanokmdjaa.Code
