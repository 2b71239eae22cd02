/- plain: which bases are valid, as the document asks: types and indexes. -/
import Derived.Test.YtcbmakanokmdjaaRj
set_option linter.unusedSimpArgs false
set_option linter.unusedVariables false
namespace Go.Proofs.Ytcbmakanokmdjaa.Code
open Go.Proofs.Ytcbmakanokmdjaa.Ev

theorem m34 (b : Base) (hb : b.Ok) (h8 : b.types.length ≤ 8) (H : Heap) (b1 : Nat) (hs0 : Sits H b1 (bBase b)) (st : St) (G : Heap) (hE : keepEnv st.1 [1, 3] = [(1, .ptr b1 0 4 0 0), (3, .int .i64 0)]) (hH : st.2 = H ++ ([] ++ G)) (z : Option (CX × St)) (hz : itLim (evCode (evC cprog) itLim c34_l1) st = z) :
    (tysOk b.types = true ∧ Lv H [] (fun c T => c = .exit 0 ∧ keepEnv T [1] = [(1, .ptr b1 0 4 0 0)]) z) ∨ (tysOk b.types = false ∧ Lv H [] (fun c T => c = .ret ∧ get T 2 = some (.bool false)) z) := by
  have hlen := (sTys [] b.types).len
  simp only [List.length_map] at hlen
  have hs := hs0
  simp only [bBase, Sits] at hs
  have L := scan_pre b.types (tyAt b.types) [1, 3] (fun i => [(1, .ptr b1 0 4 0 0), (3, .int .i64 (i : Int))]) H [] (evCode (evC cprog) itLim c34_l1) (fun c T => c = .exit 0 ∧ keepEnv T [1] = [(1, .ptr b1 0 4 0 0)]) (fun _ _ c T => c = .ret ∧ get T 2 = some (.bool false))
    (fun i t hx hpre E G hE => by
      have hlt : i < b.types.length := (List.getElem?_eq_some_iff.1 hx).1
      have hi : (i : Int) < (b.types.length : Int) := by omega
      have hok := hb.type t (List.mem_of_getElem? hx)
      have ha := aTy hx
      have hn := f60 t.name hok.name
      have hg := good_of hpre
      cases n1 : isName t.name with
      | false =>
        simp only [c34_l1, hE, hi, ha, hs, hlen, hn, n1, rTy, evX, Int.reduceEq, Int.reduceLT, Int.reduceLE, Nat.reduceMul, Nat.reduceMod, evW, fn_eq, evR, Nat.reduceAdd, Nat.reduceLT, Nat.reduceLeDiff, reduceIte, Nat.reduceEqDiff, reduceCtorEq, argEnv, eq_self, if_true, if_false]
        repeat' ((first | rw [guardK_cases] | rw [condK_bool] | rw [guardD_cases]); split <;> simp only [c34_l1, hE, hi, ha, hs, hlen, hn, n1, rTy, evX, Int.reduceEq, Int.reduceLT, Int.reduceLE, Nat.reduceMul, Nat.reduceMod, evW, evR, Nat.reduceAdd, Nat.reduceLT, Nat.reduceLeDiff, reduceIte, Nat.reduceEqDiff, reduceCtorEq, argEnv, eq_self, if_true, if_false, *])
        exact Sc.ret (by simp [tyAt, tyOk, n1]) ⟨rfl, rfl⟩
      | true =>
        by_cases m1 : t.min < 1
        · simp only [c34_l1, hE, hi, ha, hs, hlen, hn, n1, m1, rTy, evX, Int.reduceEq, Int.reduceLT, Int.reduceLE, Nat.reduceMul, Nat.reduceMod, evW, fn_eq, evR, Nat.reduceAdd, Nat.reduceLT, Nat.reduceLeDiff, reduceIte, Nat.reduceEqDiff, reduceCtorEq, argEnv, eq_self, if_true, if_false]
          repeat' ((first | rw [guardK_cases] | rw [condK_bool] | rw [guardD_cases]); split <;> simp only [c34_l1, hE, hi, ha, hs, hlen, hn, n1, m1, rTy, evX, Int.reduceEq, Int.reduceLT, Int.reduceLE, Nat.reduceMul, Nat.reduceMod, evW, evR, Nat.reduceAdd, Nat.reduceLT, Nat.reduceLeDiff, reduceIte, Nat.reduceEqDiff, reduceCtorEq, argEnv, eq_self, if_true, if_false, *])
          exact Sc.ret (by simp [tyAt, tyOk, sizeOk]; omega) ⟨rfl, rfl⟩
        by_cases m2 : t.size < t.min
        · simp only [c34_l1, hE, hi, ha, hs, hlen, hn, n1, m1, m2, rTy, evX, Int.reduceEq, Int.reduceLT, Int.reduceLE, Nat.reduceMul, Nat.reduceMod, evW, fn_eq, evR, Nat.reduceAdd, Nat.reduceLT, Nat.reduceLeDiff, reduceIte, Nat.reduceEqDiff, reduceCtorEq, argEnv, eq_self, if_true, if_false]
          repeat' ((first | rw [guardK_cases] | rw [condK_bool] | rw [guardD_cases]); split <;> simp only [c34_l1, hE, hi, ha, hs, hlen, hn, n1, m1, m2, rTy, evX, Int.reduceEq, Int.reduceLT, Int.reduceLE, Nat.reduceMul, Nat.reduceMod, evW, evR, Nat.reduceAdd, Nat.reduceLT, Nat.reduceLeDiff, reduceIte, Nat.reduceEqDiff, reduceCtorEq, argEnv, eq_self, if_true, if_false, *])
          exact Sc.ret (by simp [tyAt, tyOk, sizeOk]; omega) ⟨rfl, rfl⟩
        by_cases m3 : 40 < t.size
        · simp only [c34_l1, hE, hi, ha, hs, hlen, hn, n1, m1, m2, m3, rTy, evX, Int.reduceEq, Int.reduceLT, Int.reduceLE, Nat.reduceMul, Nat.reduceMod, evW, fn_eq, evR, Nat.reduceAdd, Nat.reduceLT, Nat.reduceLeDiff, reduceIte, Nat.reduceEqDiff, reduceCtorEq, argEnv, eq_self, if_true, if_false]
          repeat' ((first | rw [guardK_cases] | rw [condK_bool] | rw [guardD_cases]); split <;> simp only [c34_l1, hE, hi, ha, hs, hlen, hn, n1, m1, m2, m3, rTy, evX, Int.reduceEq, Int.reduceLT, Int.reduceLE, Nat.reduceMul, Nat.reduceMod, evW, evR, Nat.reduceAdd, Nat.reduceLT, Nat.reduceLeDiff, reduceIte, Nat.reduceEqDiff, reduceCtorEq, argEnv, eq_self, if_true, if_false, *])
          exact Sc.ret (by simp [tyAt, tyOk, sizeOk]; omega) ⟨rfl, rfl⟩
        have hsz : sizeOk t = true := by simp [sizeOk]; omega
        have h61 := f61 t hok hsz
        simp only [rTy] at h61
        cases m4 : fieldsOk t && keyOk t with
        | false =>
          simp only [c34_l1, hE, hi, ha, hs, hlen, hn, n1, m1, m2, m3, m4, h61, rTy, evX, Int.reduceEq, Int.reduceLT, Int.reduceLE, Nat.reduceMul, Nat.reduceMod, evW, fn_eq, evR, Nat.reduceAdd, Nat.reduceLT, Nat.reduceLeDiff, reduceIte, Nat.reduceEqDiff, reduceCtorEq, argEnv, eq_self, if_true, if_false]
          repeat' ((first | rw [guardK_cases] | rw [condK_bool] | rw [guardD_cases]); split <;> simp only [c34_l1, hE, hi, ha, hs, hlen, hn, n1, m1, m2, m3, m4, h61, rTy, evX, Int.reduceEq, Int.reduceLT, Int.reduceLE, Nat.reduceMul, Nat.reduceMod, evW, evR, Nat.reduceAdd, Nat.reduceLT, Nat.reduceLeDiff, reduceIte, Nat.reduceEqDiff, reduceCtorEq, argEnv, eq_self, if_true, if_false, *])
          refine Sc.ret ?_ ⟨rfl, rfl⟩
          have : tyOk t = false := by unfold tyOk; rw [Bool.and_assoc _ (fieldsOk t), m4]; simp
          simp [tyAt, this]
        | true =>
          have hty : tyOk t = true := by unfold tyOk; rw [Bool.and_assoc _ (fieldsOk t), m4, n1, hsz]; rfl
          simp only [c34_l1, hE, hi, ha, hs, hlen, hn, n1, m1, m2, m3, m4, h61, rTy, evX, Int.reduceEq, Int.reduceLT, Int.reduceLE, Nat.reduceMul, Nat.reduceMod, evW, fn_eq, evR, Nat.reduceAdd, Nat.reduceLT, Nat.reduceLeDiff, reduceIte, Nat.reduceEqDiff, reduceCtorEq, argEnv, eq_self, if_true, if_false]
          repeat' ((first | rw [guardK_cases] | rw [condK_bool] | rw [guardD_cases]); split <;> simp only [c34_l1, hE, hi, ha, hs, hlen, hn, n1, m1, m2, m3, m4, h61, rTy, evX, Int.reduceEq, Int.reduceLT, Int.reduceLE, Nat.reduceMul, Nat.reduceMod, evW, evR, Nat.reduceAdd, Nat.reduceLT, Nat.reduceLeDiff, reduceIte, Nat.reduceEqDiff, reduceCtorEq, argEnv, eq_self, if_true, if_false, *])
          generalize hz : itLim _ _ = z
          rcases l34a b t i hlt (by omega) (H ++ (G ++ [bTy t])) b1 (H.length + G.length) (fun X => by rw [List.append_assoc]; exact hs0 _) (.mk (by simp)) _ [] (by rfl) (by simp [bTy, rTy]) z hz with ⟨h, c, T, G', rfl, _, rfl, hT⟩ | ⟨h, c, T, G', rfl, _, rfl, hT⟩
          · by_cases hi0 : i = 0
            · subst hi0
              have e0 : ((0 : Nat) : Int) = 0 := rfl
              rw [e0] at hT
              by_cases r1 : t.parent = -1
              · by_cases r2 : t.key < 0
                · simp only [hT, bTy, rTy, r1, r2, evX, Int.reduceEq, Int.reduceLT, Int.reduceLE, Nat.reduceMul, Nat.reduceMod, evW, fn_eq, evR, Nat.reduceAdd, Nat.reduceLT, Nat.reduceLeDiff, reduceIte, Nat.reduceEqDiff, reduceCtorEq, argEnv, eq_self, if_true, if_false]
                  repeat' ((first | rw [guardK_cases] | rw [condK_bool] | rw [guardD_cases]); split <;> simp only [hT, bTy, rTy, r1, r2, evX, Int.reduceEq, Int.reduceLT, Int.reduceLE, Nat.reduceMul, Nat.reduceMod, evW, evR, Nat.reduceAdd, Nat.reduceLT, Nat.reduceLeDiff, reduceIte, Nat.reduceEqDiff, reduceCtorEq, argEnv, eq_self, if_true, if_false, *])
                  exact Sc.ret (by simp [tyAt, rootOk]; omega) ⟨rfl, rfl⟩
                · cases r3 : t.unique with
                  | false =>
                    simp only [hT, bTy, rTy, r1, r2, r3, evX, Int.reduceEq, Int.reduceLT, Int.reduceLE, Nat.reduceMul, Nat.reduceMod, evW, fn_eq, evR, Nat.reduceAdd, Nat.reduceLT, Nat.reduceLeDiff, reduceIte, Nat.reduceEqDiff, reduceCtorEq, argEnv, eq_self, if_true, if_false]
                    repeat' ((first | rw [guardK_cases] | rw [condK_bool] | rw [guardD_cases]); split <;> simp only [hT, bTy, rTy, r1, r2, r3, evX, Int.reduceEq, Int.reduceLT, Int.reduceLE, Nat.reduceMul, Nat.reduceMod, evW, evR, Nat.reduceAdd, Nat.reduceLT, Nat.reduceLeDiff, reduceIte, Nat.reduceEqDiff, reduceCtorEq, argEnv, eq_self, if_true, if_false, *])
                    exact Sc.ret (by simp [tyAt, rootOk, r3]) ⟨rfl, rfl⟩
                  | true =>
                    rcases key_cases t with hk | hk | hk | ⟨k, f, hk, hf⟩
                    · omega
                    · omega
                    · have := key_far hk; simp [this] at m4
                    · have haf := aFd hf
                      have k2 : ¬ (k : Int) < 0 := by omega
                      have hanc : anc b.types 0 = [((0 : Nat) : Int)] := anc_root fun t' ht' => by rw [hx] at ht'; cases ht'; omega
                      have hk0 : (0 : Int) ≤ t.key := by omega
                      by_cases r4 : 24 < f.bytes
                      · simp only [hT, bTy, rTy, rFd, r1, hk, k2, r3, haf, r4, evX, Int.reduceEq, Int.reduceLT, Int.reduceLE, Nat.reduceMul, Nat.reduceMod, evW, fn_eq, evR, Nat.reduceAdd, Nat.reduceLT, Nat.reduceLeDiff, reduceIte, Nat.reduceEqDiff, reduceCtorEq, argEnv, eq_self, if_true, if_false]
                        repeat' ((first | rw [guardK_cases] | rw [condK_bool] | rw [guardD_cases]); split <;> simp only [hT, bTy, rTy, rFd, r1, hk, k2, r3, haf, r4, evX, Int.reduceEq, Int.reduceLT, Int.reduceLE, Nat.reduceMul, Nat.reduceMod, evW, evR, Nat.reduceAdd, Nat.reduceLT, Nat.reduceLeDiff, reduceIte, Nat.reduceEqDiff, reduceCtorEq, argEnv, eq_self, if_true, if_false, *])
                        exact Sc.ret (by simp [tyAt, rootOk, r3, hk, hf]; omega) ⟨rfl, rfl⟩
                      · have r5 : f.bytes ≤ 24 := by omega
                        simp only [hT, bTy, rTy, rFd, r1, hk, k2, r3, haf, r4, evX, Int.reduceEq, Int.reduceLT, Int.reduceLE, Nat.reduceMul, Nat.reduceMod, evW, fn_eq, evR, Nat.reduceAdd, Nat.reduceLT, Nat.reduceLeDiff, reduceIte, Nat.reduceEqDiff, reduceCtorEq, argEnv, eq_self, if_true, if_false]
                        repeat' ((first | rw [guardK_cases] | rw [condK_bool] | rw [guardD_cases]); split <;> simp only [hT, bTy, rTy, rFd, r1, hk, k2, r3, haf, r4, evX, Int.reduceEq, Int.reduceLT, Int.reduceLE, Nat.reduceMul, Nat.reduceMod, evW, evR, Nat.reduceAdd, Nat.reduceLT, Nat.reduceLeDiff, reduceIte, Nat.reduceEqDiff, reduceCtorEq, argEnv, eq_self, if_true, if_false, *])
                        exact Sc.next (by simp [tyAt, rootOk, r1, r3, hk, hf, hty, hanc, r5]) (by rfl)
              · simp only [hT, bTy, rTy, r1, evX, Int.reduceEq, Int.reduceLT, Int.reduceLE, Nat.reduceMul, Nat.reduceMod, evW, fn_eq, evR, Nat.reduceAdd, Nat.reduceLT, Nat.reduceLeDiff, reduceIte, Nat.reduceEqDiff, reduceCtorEq, argEnv, eq_self, if_true, if_false]
                repeat' ((first | rw [guardK_cases] | rw [condK_bool] | rw [guardD_cases]); split <;> simp only [hT, bTy, rTy, r1, evX, Int.reduceEq, Int.reduceLT, Int.reduceLE, Nat.reduceMul, Nat.reduceMod, evW, evR, Nat.reduceAdd, Nat.reduceLT, Nat.reduceLeDiff, reduceIte, Nat.reduceEqDiff, reduceCtorEq, argEnv, eq_self, if_true, if_false, *])
                exact Sc.ret (by simp [tyAt, rootOk, r1]) ⟨rfl, rfl⟩
            · have n0 : decide ((i : Int) = 0) = false := decide_eq_false (by omega)
              obtain ⟨j, rfl⟩ : ∃ j, i = j + 1 := ⟨i - 1, by omega⟩
              by_cases p1 : t.parent < 0
              · simp only [hT, bTy, rTy, n0, p1, evX, Int.reduceEq, Int.reduceLT, Int.reduceLE, Nat.reduceMul, Nat.reduceMod, evW, fn_eq, evR, Nat.reduceAdd, Nat.reduceLT, Nat.reduceLeDiff, reduceIte, Nat.reduceEqDiff, reduceCtorEq, argEnv, eq_self, if_true, if_false]
                repeat' ((first | rw [guardK_cases] | rw [condK_bool] | rw [guardD_cases]); split <;> simp only [hT, bTy, rTy, n0, p1, evX, Int.reduceEq, Int.reduceLT, Int.reduceLE, Nat.reduceMul, Nat.reduceMod, evW, evR, Nat.reduceAdd, Nat.reduceLT, Nat.reduceLeDiff, reduceIte, Nat.reduceEqDiff, reduceCtorEq, argEnv, eq_self, if_true, if_false, *])
                refine Sc.ret ?_ ⟨rfl, rfl⟩
                have : t.parent ∉ wayTo b.types (j + 1) := fun h => by have := anc_bound h; omega
                simp [tyAt, this]
              by_cases p2 : ((j + 1 : Nat) : Int) ≤ t.parent
              · simp only [hT, bTy, rTy, n0, p1, p2, evX, Int.reduceEq, Int.reduceLT, Int.reduceLE, Nat.reduceMul, Nat.reduceMod, evW, fn_eq, evR, Nat.reduceAdd, Nat.reduceLT, Nat.reduceLeDiff, reduceIte, Nat.reduceEqDiff, reduceCtorEq, argEnv, eq_self, if_true, if_false]
                repeat' ((first | rw [guardK_cases] | rw [condK_bool] | rw [guardD_cases]); split <;> simp only [hT, bTy, rTy, n0, p1, p2, evX, Int.reduceEq, Int.reduceLT, Int.reduceLE, Nat.reduceMul, Nat.reduceMod, evW, evR, Nat.reduceAdd, Nat.reduceLT, Nat.reduceLeDiff, reduceIte, Nat.reduceEqDiff, reduceCtorEq, argEnv, eq_self, if_true, if_false, *])
                refine Sc.ret ?_ ⟨rfl, rfl⟩
                have : t.parent ∉ wayTo b.types (j + 1) := fun h => by have := anc_bound h; omega
                simp [tyAt, this]
              have hw : IntKind.i64.wrap (((j + 1 : Nat) : Int) - 1) = (j : Int) := by rw [wrap_i64 (by omega) (by omega)]; omega
              have h62 := f62 b (j + 1) hg (by omega) t.parent j (by omega)
              simp only [eBase] at h62
              have hanc : anc b.types (j + 1) = anc b.types t.parent.toNat ++ [((j + 1 : Nat) : Int)] := anc_up hx (by omega) (by omega)
              have h63 : ∀ H, cal (evC cprog) true 63 [eBase b, .int .i64 ((j + 1 : Nat) : Int)] H = some (eIs (anc b.types (j + 1)), H) := fun H => by
                by_cases hp : t.parent < ((j + 1 : Nat) : Int)
                · exact f63 b (j + 2) (fun k t' hk ht' => by
                    by_cases hkj : k = j + 1
                    · subst hkj; rw [hx] at ht'; cases ht'; omega
                    · exact hg k t' (by omega) ht') (by omega) (by omega) (j + 1) (by omega) H
                · omega
              simp only [eBase] at h63
              have hlen5 := (sIs [] (anc b.types (j + 1))).len
              simp only [List.length_map] at hlen5
              by_cases p3 : t.parent = (j : Int)
              · have hm : t.parent ∈ anc b.types j := by rw [p3]; exact anc_self _ _
                have q1 : ¬ (j : Int) < 0 := by omega
                have q2 : ¬ ((j + 1 : Nat) : Int) ≤ (j : Int) := by omega
                by_cases p5 : 5 < ((anc b.types (j + 1)).length : Int)
                · simp only [hT, hs, bTy, rTy, n0, p1, p2, hw, p3, q1, q2, h63, hlen5, p5, evX, Int.reduceEq, Int.reduceLT, Int.reduceLE, Nat.reduceMul, Nat.reduceMod, evW, fn_eq, evR, Nat.reduceAdd, Nat.reduceLT, Nat.reduceLeDiff, reduceIte, Nat.reduceEqDiff, reduceCtorEq, argEnv, eq_self, if_true, if_false]
                  repeat' ((first | rw [guardK_cases] | rw [condK_bool] | rw [guardD_cases]); split <;> simp only [hT, hs, bTy, rTy, n0, p1, p2, hw, p3, q1, q2, h63, hlen5, p5, evX, Int.reduceEq, Int.reduceLT, Int.reduceLE, Nat.reduceMul, Nat.reduceMod, evW, evR, Nat.reduceAdd, Nat.reduceLT, Nat.reduceLeDiff, reduceIte, Nat.reduceEqDiff, reduceCtorEq, argEnv, eq_self, if_true, if_false, *])
                  all_goals first | (exfalso; omega) | exact Sc.ret (by simp [tyAt]; omega) ⟨rfl, rfl⟩
                · simp only [hT, hs, bTy, rTy, n0, p1, p2, hw, p3, q1, q2, h63, hlen5, p5, wrapS hlt (by omega), evX, Int.reduceEq, Int.reduceLT, Int.reduceLE, Nat.reduceMul, Nat.reduceMod, evW, fn_eq, evR, Nat.reduceAdd, Nat.reduceLT, Nat.reduceLeDiff, reduceIte, Nat.reduceEqDiff, reduceCtorEq, argEnv, eq_self, if_true, if_false]
                  repeat' ((first | rw [guardK_cases] | rw [condK_bool] | rw [guardD_cases]); split <;> simp only [hT, hs, bTy, rTy, n0, p1, p2, hw, p3, q1, q2, h63, hlen5, p5, wrapS hlt (by omega), evX, Int.reduceEq, Int.reduceLT, Int.reduceLE, Nat.reduceMul, Nat.reduceMod, evW, evR, Nat.reduceAdd, Nat.reduceLT, Nat.reduceLeDiff, reduceIte, Nat.reduceEqDiff, reduceCtorEq, argEnv, eq_self, if_true, if_false, *])
                  all_goals first | (exfalso; omega) | exact Sc.next (by simp [tyAt, hty, h, wayTo, hm]; omega) (by rfl)
              cases p4 : decide (t.parent ∈ (anc b.types j).dropLast) with
              | false =>
                have hm : t.parent ∉ anc b.types j := by rw [mem_anc]; simp at p4; simp [p4, p3]
                simp only [hT, hs, bTy, rTy, n0, p1, p2, hw, p3, h62, p4, evX, Int.reduceEq, Int.reduceLT, Int.reduceLE, Nat.reduceMul, Nat.reduceMod, evW, fn_eq, evR, Nat.reduceAdd, Nat.reduceLT, Nat.reduceLeDiff, reduceIte, Nat.reduceEqDiff, reduceCtorEq, argEnv, eq_self, if_true, if_false]
                repeat' ((first | rw [guardK_cases] | rw [condK_bool] | rw [guardD_cases]); split <;> simp only [hT, hs, bTy, rTy, n0, p1, p2, hw, p3, h62, p4, evX, Int.reduceEq, Int.reduceLT, Int.reduceLE, Nat.reduceMul, Nat.reduceMod, evW, evR, Nat.reduceAdd, Nat.reduceLT, Nat.reduceLeDiff, reduceIte, Nat.reduceEqDiff, reduceCtorEq, argEnv, eq_self, if_true, if_false, *])
                all_goals first | (exfalso; omega) | exact Sc.ret (by simp [tyAt, wayTo, hm]) ⟨rfl, rfl⟩
              | true =>
                have hm : t.parent ∈ anc b.types j := by rw [mem_anc]; simp at p4; exact .inl p4
                by_cases p5 : 5 < ((anc b.types (j + 1)).length : Int)
                · simp only [hT, hs, bTy, rTy, n0, p1, p2, hw, p3, h62, p4, h63, hlen5, p5, evX, Int.reduceEq, Int.reduceLT, Int.reduceLE, Nat.reduceMul, Nat.reduceMod, evW, fn_eq, evR, Nat.reduceAdd, Nat.reduceLT, Nat.reduceLeDiff, reduceIte, Nat.reduceEqDiff, reduceCtorEq, argEnv, eq_self, if_true, if_false]
                  repeat' ((first | rw [guardK_cases] | rw [condK_bool] | rw [guardD_cases]); split <;> simp only [hT, hs, bTy, rTy, n0, p1, p2, hw, p3, h62, p4, h63, hlen5, p5, evX, Int.reduceEq, Int.reduceLT, Int.reduceLE, Nat.reduceMul, Nat.reduceMod, evW, evR, Nat.reduceAdd, Nat.reduceLT, Nat.reduceLeDiff, reduceIte, Nat.reduceEqDiff, reduceCtorEq, argEnv, eq_self, if_true, if_false, *])
                  all_goals first | (exfalso; omega) | exact Sc.ret (by simp [tyAt]; omega) ⟨rfl, rfl⟩
                · simp only [hT, hs, bTy, rTy, n0, p1, p2, hw, p3, h62, p4, h63, hlen5, p5, wrapS hlt (by omega), evX, Int.reduceEq, Int.reduceLT, Int.reduceLE, Nat.reduceMul, Nat.reduceMod, evW, fn_eq, evR, Nat.reduceAdd, Nat.reduceLT, Nat.reduceLeDiff, reduceIte, Nat.reduceEqDiff, reduceCtorEq, argEnv, eq_self, if_true, if_false]
                  repeat' ((first | rw [guardK_cases] | rw [condK_bool] | rw [guardD_cases]); split <;> simp only [hT, hs, bTy, rTy, n0, p1, p2, hw, p3, h62, p4, h63, hlen5, p5, wrapS hlt (by omega), evX, Int.reduceEq, Int.reduceLT, Int.reduceLE, Nat.reduceMul, Nat.reduceMod, evW, evR, Nat.reduceAdd, Nat.reduceLT, Nat.reduceLeDiff, reduceIte, Nat.reduceEqDiff, reduceCtorEq, argEnv, eq_self, if_true, if_false, *])
                  all_goals first | (exfalso; omega) | exact Sc.next (by simp [tyAt, hty, h, wayTo, hm]; omega) (by rfl)
          · simp only [hT, evX, Int.reduceEq, Int.reduceLT, Int.reduceLE, Nat.reduceMul, Nat.reduceMod, evW, fn_eq, evR, Nat.reduceAdd, Nat.reduceLT, Nat.reduceLeDiff, reduceIte, Nat.reduceEqDiff, reduceCtorEq, argEnv, eq_self, if_true, if_false]
            repeat' ((first | rw [guardK_cases] | rw [condK_bool] | rw [guardD_cases]); split <;> simp only [hT, evX, Int.reduceEq, Int.reduceLT, Int.reduceLE, Nat.reduceMul, Nat.reduceMod, evW, evR, Nat.reduceAdd, Nat.reduceLT, Nat.reduceLeDiff, reduceIte, Nat.reduceEqDiff, reduceCtorEq, argEnv, eq_self, if_true, if_false, *])
            exact Sc.ret (by simp [tyAt, h]) ⟨rfl, hT⟩)
    (fun _ E G hE => by
      simp only [c34_l1, hE, hs, hlen, Int.lt_irrefl, evX, Int.reduceEq, Int.reduceLT, Int.reduceLE, Nat.reduceMul, Nat.reduceMod, evW, fn_eq, evR, Nat.reduceAdd, Nat.reduceLT, Nat.reduceLeDiff, reduceIte, Nat.reduceEqDiff, reduceCtorEq, argEnv, eq_self, if_true, if_false]
      repeat' ((first | rw [guardK_cases] | rw [condK_bool] | rw [guardD_cases]); split <;> simp only [c34_l1, hE, hs, hlen, Int.lt_irrefl, evX, Int.reduceEq, Int.reduceLT, Int.reduceLE, Nat.reduceMul, Nat.reduceMod, evW, evR, Nat.reduceAdd, Nat.reduceLT, Nat.reduceLeDiff, reduceIte, Nat.reduceEqDiff, reduceCtorEq, argEnv, eq_self, if_true, if_false, *])
      exact .exit (K := []) ⟨rfl, by rfl⟩) st G hE hH z hz
  rcases L with ⟨h, L⟩ | ⟨i, f, hx, h, _, L⟩
  · exact .inl ⟨tell_pos h, L⟩
  · exact .inr ⟨tell_neg fun h' => by rw [h' i f hx] at h; (cases h), L⟩
end Go.Proofs.Ytcbmakanokmdjaa.Code
