/- plain: the way of parents among types, as the document asks. -/
import Derived.Test.YtcbmakanokmdjaaRf
set_option linter.unusedSimpArgs false
set_option linter.unusedVariables false
namespace Go.Proofs.Ytcbmakanokmdjaa.Code
open Go.Proofs.Ytcbmakanokmdjaa.Ev

/-- the way to a type, or nothing for -1 -/
def ancI (ts : List Ty) (t : Int) : List Int := if t < 0 then [] else anc ts t.toNat
/-- parents stand in front of their children -/
def Good (ts : List Ty) (n : Nat) : Prop := ∀ (j : Nat) (t : Ty), j < n → ts[j]? = some t → -1 ≤ t.parent ∧ t.parent < (j : Int)
theorem Good.mono {ts : List Ty} {n m : Nat} (h : Good ts n) (hm : m ≤ n) : Good ts m := fun j t hj ht => h j t (by omega) ht
theorem anc_step {ts : List Ty} {n j : Nat} {t : Ty} (h : Good ts n) (hj : j < n) (ht : ts[j]? = some t) : anc ts j = ancI ts t.parent ++ [(j : Int)] := by
  obtain ⟨h1, h2⟩ := h j t hj ht
  unfold ancI
  by_cases hp : t.parent < 0
  · rw [if_pos hp, anc_root fun t' ht' => by rw [ht] at ht'; cases ht'; exact hp]; rfl
  · rw [if_neg hp, anc_up ht (p := t.parent.toNat) (by omega) (by omega)]
theorem ancI_nat (ts : List Ty) (k : Nat) : ancI ts (k : Int) = anc ts k := by unfold ancI; rw [if_neg (by omega)]; simp
theorem ancI_neg (ts : List Ty) {t : Int} (h : t < 0) : ancI ts t = [] := if_pos h
theorem lFp {α : Type} (row : α → List AV) {sz : Nat} (hr : ∀ x, (row x).length = sz) {l : List α} {i : Nat} {x : α} (hx : l[i]? = some x) : iaddrK sz (some (.lst (l.map row))) (some (.int .i64 (i : Int))) = some (.fptr (row x)) := by
  rw [iaddr_lst, asNat_cast, atK_some, List.getElem?_map, hx, Option.map_some, rowK_some, if_pos (hr x)]
theorem aTy {l : List Ty} {i : Nat} {x : Ty} (hx : l[i]? = some x) : iaddrK 8 (some (eTys l)) (some (.int .i64 (i : Int))) = some (.fptr (rTy x)) := lFp rTy (fun _ => rfl) hx
theorem aFd {l : List Fd} {i : Nat} {x : Fd} (hx : l[i]? = some x) : iaddrK 3 (some (eFds l)) (some (.int .i64 (i : Int))) = some (.fptr (rFd x)) := lFp rFd (fun _ => rfl) hx
theorem aSe {l : List Se} {i : Nat} {x : Se} (hx : l[i]? = some x) : iaddrK 4 (some (eSes l)) (some (.int .i64 (i : Int))) = some (.fptr (rSe x)) := lFp rSe (fun _ => rfl) hx
theorem aItem {l : List Item} {i : Nat} {x : Item} (hx : l[i]? = some x) : iaddrK 2 (some (eItems l)) (some (.int .i64 (i : Int))) = some (.fptr (rItem x)) := lFp rItem (fun _ => rfl) hx
theorem aI {l : List Int} {i : Nat} {x : Int} (hx : l[i]? = some x) : iaddrK 1 (some (eIs l)) (some (.int .i64 (i : Int))) = some (.fptr (rI x)) := lFp rI (fun _ => rfl) hx
theorem f62 (b : Base) (n : Nat) (hg : Good b.types n) (hn : n ≤ b.types.length) (a : Int) (k : Nat) (hk : k < n) (H : Heap) :
    cal (evC cprog) false 62 [eBase b, .int .i64 a, .int .i64 (k : Int)] H = some (.bool (decide (a ∈ (anc b.types k).dropLast)), H) := by
  rw [cal_of at62]
  obtain ⟨t, ht⟩ : ∃ t, b.types[k]? = some t := ⟨_, List.getElem?_eq_getElem (by omega)⟩
  have hat := aTy ht
  simp only [c62, eBase, rTy, hat, evX, Int.reduceEq, Int.reduceLT, Int.reduceLE, Nat.reduceMul, Nat.reduceMod, evW, fn_eq, evR, Nat.reduceAdd, Nat.reduceLT, Nat.reduceLeDiff, reduceIte, Nat.reduceEqDiff, reduceCtorEq, argEnv, eq_self, if_true, if_false]
  repeat' ((first | rw [guardK_cases] | rw [condK_bool] | rw [guardD_cases]); split <;> simp only [c62, eBase, rTy, hat, evX, Int.reduceEq, Int.reduceLT, Int.reduceLE, Nat.reduceMul, Nat.reduceMod, evW, evR, Nat.reduceAdd, Nat.reduceLT, Nat.reduceLeDiff, reduceIte, Nat.reduceEqDiff, reduceCtorEq, argEnv, eq_self, if_true, if_false, *])
  rw [anc_step hg hk ht, List.dropLast_concat]
  generalize hz : itLim _ _ = z
  have L := loop_rule (σ := Int) (m := [1, 2, 3]) (env := fun t => [(1, .int .i64 a), (2, .int .i64 t), (3, .ptr H.length 0 4 0 0)]) (hp := fun _ => H ++ [⟨0, true, 25, 4, [[.str b.name, .int .i64 b.kind, eTys b.types, eSes b.indexes]]⟩])
    (P := fun t r => ∃ T, r.2 = (T, H ++ [⟨0, true, 25, 4, [[.str b.name, .int .i64 b.kind, eTys b.types, eSes b.indexes]]⟩]) ∧ ((a ∈ ancI b.types t ∧ r.1 = .ret ∧ get T 6 = some (.bool true)) ∨ (a ∉ ancI b.types t ∧ r.1 = .exit 0)))
    (mu := fun t => (t + 1).toNat) (I := fun t => -1 ≤ t ∧ t < (n : Int)) (evCode (evC cprog) itLim c62_l0) ?_ t.parent _ (by have := hg k t hk ht; omega) (by rfl) rfl z hz
  · obtain ⟨⟨c, T, H'⟩, rfl, T', h1, h⟩ := L
    cases h1
    rcases h with ⟨h, rfl, hT⟩ | ⟨h, rfl⟩
    · simp only [hT, h, evX, Int.reduceEq, Int.reduceLT, Int.reduceLE, Nat.reduceMul, Nat.reduceMod, evW, fn_eq, evR, Nat.reduceAdd, Nat.reduceLT, Nat.reduceLeDiff, reduceIte, Nat.reduceEqDiff, reduceCtorEq, argEnv, eq_self, if_true, if_false]
      repeat' ((first | rw [guardK_cases] | rw [condK_bool] | rw [guardD_cases]); split <;> simp only [hT, h, evX, Int.reduceEq, Int.reduceLT, Int.reduceLE, Nat.reduceMul, Nat.reduceMod, evW, evR, Nat.reduceAdd, Nat.reduceLT, Nat.reduceLeDiff, reduceIte, Nat.reduceEqDiff, reduceCtorEq, argEnv, eq_self, if_true, if_false, *])
    · simp only [h, evX, Int.reduceEq, Int.reduceLT, Int.reduceLE, Nat.reduceMul, Nat.reduceMod, evW, fn_eq, evR, Nat.reduceAdd, Nat.reduceLT, Nat.reduceLeDiff, reduceIte, Nat.reduceEqDiff, reduceCtorEq, argEnv, eq_self, if_true, if_false]
      repeat' ((first | rw [guardK_cases] | rw [condK_bool] | rw [guardD_cases]); split <;> simp only [h, evX, Int.reduceEq, Int.reduceLT, Int.reduceLE, Nat.reduceMul, Nat.reduceMod, evW, evR, Nat.reduceAdd, Nat.reduceLT, Nat.reduceLeDiff, reduceIte, Nat.reduceEqDiff, reduceCtorEq, argEnv, eq_self, if_true, if_false, *])
  · intro t ⟨h1, h2⟩ E hE
    by_cases h0 : 0 ≤ t
    · obtain ⟨j, rfl⟩ : ∃ j : Nat, t = (j : Int) := ⟨t.toNat, by omega⟩
      obtain ⟨t, ht⟩ : ∃ t, b.types[j]? = some t := ⟨_, List.getElem?_eq_getElem (by omega)⟩
      have hat := aTy ht
      have hs := anc_step hg (by omega) ht
      have hgt := hg j t (by omega) ht
      by_cases ha : (j : Int) = a
      · subst ha
        simp only [c62_l0, hE, h0, evX, Int.reduceEq, Int.reduceLT, Int.reduceLE, Nat.reduceMul, Nat.reduceMod, evW, fn_eq, evR, Nat.reduceAdd, Nat.reduceLT, Nat.reduceLeDiff, reduceIte, Nat.reduceEqDiff, reduceCtorEq, argEnv, eq_self, if_true, if_false]
        repeat' ((first | rw [guardK_cases] | rw [condK_bool] | rw [guardD_cases]); split <;> simp only [c62_l0, hE, h0, evX, Int.reduceEq, Int.reduceLT, Int.reduceLE, Nat.reduceMul, Nat.reduceMod, evW, evR, Nat.reduceAdd, Nat.reduceLT, Nat.reduceLeDiff, reduceIte, Nat.reduceEqDiff, reduceCtorEq, argEnv, eq_self, if_true, if_false, *])
        exact q_ret ⟨_, rfl, .inl ⟨by rw [ancI_nat]; exact anc_self _ _, rfl, by rfl⟩⟩
      · simp only [c62_l0, hE, h0, ha, hat, rTy, evX, Int.reduceEq, Int.reduceLT, Int.reduceLE, Nat.reduceMul, Nat.reduceMod, evW, fn_eq, evR, Nat.reduceAdd, Nat.reduceLT, Nat.reduceLeDiff, reduceIte, Nat.reduceEqDiff, reduceCtorEq, argEnv, eq_self, if_true, if_false]
        repeat' ((first | rw [guardK_cases] | rw [condK_bool] | rw [guardD_cases]); split <;> simp only [c62_l0, hE, h0, ha, hat, rTy, evX, Int.reduceEq, Int.reduceLT, Int.reduceLE, Nat.reduceMul, Nat.reduceMod, evW, evR, Nat.reduceAdd, Nat.reduceLT, Nat.reduceLeDiff, reduceIte, Nat.reduceEqDiff, reduceCtorEq, argEnv, eq_self, if_true, if_false, *])
        refine q_next t.parent (by rfl) rfl (by omega) (by omega) fun r h => ?_
        obtain ⟨T, h3, h⟩ := h
        refine ⟨T, h3, ?_⟩
        rw [ancI_nat, hs]
        have : a ≠ (j : Int) := fun h => ha h.symm
        simpa [this] using h
    · simp only [c62_l0, hE, h0, evX, Int.reduceEq, Int.reduceLT, Int.reduceLE, Nat.reduceMul, Nat.reduceMod, evW, fn_eq, evR, Nat.reduceAdd, Nat.reduceLT, Nat.reduceLeDiff, reduceIte, Nat.reduceEqDiff, reduceCtorEq, argEnv, eq_self, if_true, if_false]
      repeat' ((first | rw [guardK_cases] | rw [condK_bool] | rw [guardD_cases]); split <;> simp only [c62_l0, hE, h0, evX, Int.reduceEq, Int.reduceLT, Int.reduceLE, Nat.reduceMul, Nat.reduceMod, evW, evR, Nat.reduceAdd, Nat.reduceLT, Nat.reduceLeDiff, reduceIte, Nat.reduceEqDiff, reduceCtorEq, argEnv, eq_self, if_true, if_false, *])
      exact q_exit ⟨_, rfl, .inr ⟨by rw [ancI_neg _ (by omega)]; simp, rfl⟩⟩
end Go.Proofs.Ytcbmakanokmdjaa.Code
