/- plain: which bases are valid, as the document asks: the whole. -/
import Derived.Test.YtcbmakanokmdjaaRk
set_option linter.unusedSimpArgs false
set_option linter.unusedVariables false
namespace Go.Proofs.Ytcbmakanokmdjaa.Code
open Go.Proofs.Ytcbmakanokmdjaa.Ev

theorem n34 (b : Base) (hb : b.Ok) (H : Heap) (b1 : Nat) (hs0 : Sits H b1 (bBase b)) (st : St) (G : Heap) (hE : keepEnv st.1 [1, 6] = [(1, .ptr b1 0 4 0 0), (6, .int .i64 0)]) (hH : st.2 = H ++ ([] ++ G)) (z : Option (CX × St)) (hz : itLim (evCode (evC cprog) itLim c34_l3) st = z) :
    (sesOk b.types b.indexes = true ∧ Lv H [] (fun c T => c = .exit 4) z) ∨ (sesOk b.types b.indexes = false ∧ Lv H [] (fun c T => c = .ret ∧ get T 2 = some (.bool false)) z) := by
  have hlen := (sSes [] b.indexes).len
  have hlt' := (sTys [] b.types).len
  simp only [List.length_map] at hlen hlt'
  have hs := hs0
  simp only [bBase, Sits] at hs
  have L := scan_rule b.indexes (seOk b.types b.indexes) [1, 6] (fun i => [(1, .ptr b1 0 4 0 0), (6, .int .i64 (i : Int))]) H [] (evCode (evC cprog) itLim c34_l3) (fun c T => c = .exit 4) (fun _ _ c T => c = .ret ∧ get T 2 = some (.bool false))
    (fun i x hx E G hE => by
      have hlt : i < b.indexes.length := (List.getElem?_eq_some_iff.1 hx).1
      have hi : (i : Int) < (b.indexes.length : Int) := by omega
      have hxo := hb.index x (List.mem_of_getElem? hx)
      have ha := aSe hx
      have hn := f60 x.name hxo.name
      cases n1 : isName x.name with
      | false =>
        simp only [c34_l3, hE, hi, ha, hs, hlen, hn, n1, rSe, evX, Int.reduceEq, Int.reduceLT, Int.reduceLE, Nat.reduceMul, Nat.reduceMod, evW, fn_eq, evR, Nat.reduceAdd, Nat.reduceLT, Nat.reduceLeDiff, reduceIte, Nat.reduceEqDiff, reduceCtorEq, argEnv, eq_self, if_true, if_false]
        repeat' ((first | rw [guardK_cases] | rw [condK_bool] | rw [guardD_cases]); split <;> simp only [c34_l3, hE, hi, ha, hs, hlen, hn, n1, rSe, evX, Int.reduceEq, Int.reduceLT, Int.reduceLE, Nat.reduceMul, Nat.reduceMod, evW, evR, Nat.reduceAdd, Nat.reduceLT, Nat.reduceLeDiff, reduceIte, Nat.reduceEqDiff, reduceCtorEq, argEnv, eq_self, if_true, if_false, *])
        exact Sc.ret (by simp [seOk, n1]) ⟨rfl, rfl⟩
      | true =>
      rcases fld_cases b.types x with ⟨hf, h | ⟨h, h'⟩ | ⟨k, t, hk, hkl, ht, h⟩⟩ | ⟨k, t, m, f, hf, hk, hkl, ht, hm, hml, hff⟩
      · simp only [c34_l3, hE, hi, ha, hs, hlen, hn, n1, h, rSe, evX, Int.reduceEq, Int.reduceLT, Int.reduceLE, Nat.reduceMul, Nat.reduceMod, evW, fn_eq, evR, Nat.reduceAdd, Nat.reduceLT, Nat.reduceLeDiff, reduceIte, Nat.reduceEqDiff, reduceCtorEq, argEnv, eq_self, if_true, if_false]
        repeat' ((first | rw [guardK_cases] | rw [condK_bool] | rw [guardD_cases]); split <;> simp only [c34_l3, hE, hi, ha, hs, hlen, hn, n1, h, rSe, evX, Int.reduceEq, Int.reduceLT, Int.reduceLE, Nat.reduceMul, Nat.reduceMod, evW, evR, Nat.reduceAdd, Nat.reduceLT, Nat.reduceLeDiff, reduceIte, Nat.reduceEqDiff, reduceCtorEq, argEnv, eq_self, if_true, if_false, *])
        exact Sc.ret (by simp [seOk, hf, atMost20]) ⟨rfl, rfl⟩
      · have h0 : ¬ x.type < 0 := by omega
        simp only [c34_l3, hE, hi, ha, hs, hlen, hlt', hn, n1, h0, h', rSe, evX, Int.reduceEq, Int.reduceLT, Int.reduceLE, Nat.reduceMul, Nat.reduceMod, evW, fn_eq, evR, Nat.reduceAdd, Nat.reduceLT, Nat.reduceLeDiff, reduceIte, Nat.reduceEqDiff, reduceCtorEq, argEnv, eq_self, if_true, if_false]
        repeat' ((first | rw [guardK_cases] | rw [condK_bool] | rw [guardD_cases]); split <;> simp only [c34_l3, hE, hi, ha, hs, hlen, hlt', hn, n1, h0, h', rSe, evX, Int.reduceEq, Int.reduceLT, Int.reduceLE, Nat.reduceMul, Nat.reduceMod, evW, evR, Nat.reduceAdd, Nat.reduceLT, Nat.reduceLeDiff, reduceIte, Nat.reduceEqDiff, reduceCtorEq, argEnv, eq_self, if_true, if_false, *])
        exact Sc.ret (by simp [seOk, hf, atMost20]) ⟨rfl, rfl⟩
      · have k0 : ¬ (k : Int) < 0 := by omega
        have k1 : ¬ (b.types.length : Int) ≤ (k : Int) := by omega
        have hat := aTy ht
        have hfl := (sFds [] t.fields).len
        simp only [List.length_map] at hfl
        rcases h with h | ⟨h, h'⟩
        · simp only [c34_l3, hE, hi, ha, hs, hlen, hlt', hn, n1, hk, k0, k1, hat, hfl, h, rSe, rTy, evX, Int.reduceEq, Int.reduceLT, Int.reduceLE, Nat.reduceMul, Nat.reduceMod, evW, fn_eq, evR, Nat.reduceAdd, Nat.reduceLT, Nat.reduceLeDiff, reduceIte, Nat.reduceEqDiff, reduceCtorEq, argEnv, eq_self, if_true, if_false]
          repeat' ((first | rw [guardK_cases] | rw [condK_bool] | rw [guardD_cases]); split <;> simp only [c34_l3, hE, hi, ha, hs, hlen, hlt', hn, n1, hk, k0, k1, hat, hfl, h, rSe, rTy, evX, Int.reduceEq, Int.reduceLT, Int.reduceLE, Nat.reduceMul, Nat.reduceMod, evW, evR, Nat.reduceAdd, Nat.reduceLT, Nat.reduceLeDiff, reduceIte, Nat.reduceEqDiff, reduceCtorEq, argEnv, eq_self, if_true, if_false, *])
          exact Sc.ret (by simp [seOk, hf, atMost20]) ⟨rfl, rfl⟩
        · have h0 : ¬ x.field < 0 := by omega
          simp only [c34_l3, hE, hi, ha, hs, hlen, hlt', hn, n1, hk, k0, k1, hat, hfl, h0, h', rSe, rTy, evX, Int.reduceEq, Int.reduceLT, Int.reduceLE, Nat.reduceMul, Nat.reduceMod, evW, fn_eq, evR, Nat.reduceAdd, Nat.reduceLT, Nat.reduceLeDiff, reduceIte, Nat.reduceEqDiff, reduceCtorEq, argEnv, eq_self, if_true, if_false]
          repeat' ((first | rw [guardK_cases] | rw [condK_bool] | rw [guardD_cases]); split <;> simp only [c34_l3, hE, hi, ha, hs, hlen, hlt', hn, n1, hk, k0, k1, hat, hfl, h0, h', rSe, rTy, evX, Int.reduceEq, Int.reduceLT, Int.reduceLE, Nat.reduceMul, Nat.reduceMod, evW, evR, Nat.reduceAdd, Nat.reduceLT, Nat.reduceLeDiff, reduceIte, Nat.reduceEqDiff, reduceCtorEq, argEnv, eq_self, if_true, if_false, *])
          exact Sc.ret (by simp [seOk, hf, atMost20]) ⟨rfl, rfl⟩
      · have k0 : ¬ (k : Int) < 0 := by omega
        have k1 : ¬ (b.types.length : Int) ≤ (k : Int) := by omega
        have m0 : ¬ (m : Int) < 0 := by omega
        have m1 : ¬ (t.fields.length : Int) ≤ (m : Int) := by omega
        have hat := aTy ht
        have haf := aFd hff
        have hfl := (sFds [] t.fields).len
        simp only [List.length_map] at hfl
        by_cases q1 : 20 < f.bytes
        · simp only [c34_l3, hE, hi, ha, hs, hlen, hlt', hn, n1, hk, k0, k1, hat, hfl, hm, m0, m1, haf, q1, rSe, rTy, rFd, evX, Int.reduceEq, Int.reduceLT, Int.reduceLE, Nat.reduceMul, Nat.reduceMod, evW, fn_eq, evR, Nat.reduceAdd, Nat.reduceLT, Nat.reduceLeDiff, reduceIte, Nat.reduceEqDiff, reduceCtorEq, argEnv, eq_self, if_true, if_false]
          repeat' ((first | rw [guardK_cases] | rw [condK_bool] | rw [guardD_cases]); split <;> simp only [c34_l3, hE, hi, ha, hs, hlen, hlt', hn, n1, hk, k0, k1, hat, hfl, hm, m0, m1, haf, q1, rSe, rTy, rFd, evX, Int.reduceEq, Int.reduceLT, Int.reduceLE, Nat.reduceMul, Nat.reduceMod, evW, evR, Nat.reduceAdd, Nat.reduceLT, Nat.reduceLeDiff, reduceIte, Nat.reduceEqDiff, reduceCtorEq, argEnv, eq_self, if_true, if_false, *])
          exact Sc.ret (by simp [seOk, hf, atMost20]; intros; omega) ⟨rfl, rfl⟩
        by_cases q2 : (1 : Int) < x.sparse.size
        · simp only [c34_l3, hE, hi, ha, hs, hlen, hlt', hn, n1, hk, k0, k1, hat, hfl, hm, m0, m1, haf, q1, q2, rSe, rTy, rFd, evX, Int.reduceEq, Int.reduceLT, Int.reduceLE, Nat.reduceMul, Nat.reduceMod, evW, fn_eq, evR, Nat.reduceAdd, Nat.reduceLT, Nat.reduceLeDiff, reduceIte, Nat.reduceEqDiff, reduceCtorEq, argEnv, eq_self, if_true, if_false]
          repeat' ((first | rw [guardK_cases] | rw [condK_bool] | rw [guardD_cases]); split <;> simp only [c34_l3, hE, hi, ha, hs, hlen, hlt', hn, n1, hk, k0, k1, hat, hfl, hm, m0, m1, haf, q1, q2, rSe, rTy, rFd, evX, Int.reduceEq, Int.reduceLT, Int.reduceLE, Nat.reduceMul, Nat.reduceMod, evW, evR, Nat.reduceAdd, Nat.reduceLT, Nat.reduceLeDiff, reduceIte, Nat.reduceEqDiff, reduceCtorEq, argEnv, eq_self, if_true, if_false, *])
          exact Sc.ret (by simp [seOk]; intros; omega) ⟨rfl, rfl⟩
        simp only [c34_l3, hE, hi, ha, hs, hlen, hlt', hn, n1, hk, k0, k1, hat, hfl, hm, m0, m1, haf, q1, q2, rSe, rTy, rFd, evX, Int.reduceEq, Int.reduceLT, Int.reduceLE, Nat.reduceMul, Nat.reduceMod, evW, fn_eq, evR, Nat.reduceAdd, Nat.reduceLT, Nat.reduceLeDiff, reduceIte, Nat.reduceEqDiff, reduceCtorEq, argEnv, eq_self, if_true, if_false]
        repeat' ((first | rw [guardK_cases] | rw [condK_bool] | rw [guardD_cases]); split <;> simp only [c34_l3, hE, hi, ha, hs, hlen, hlt', hn, n1, hk, k0, k1, hat, hfl, hm, m0, m1, haf, q1, q2, rSe, rTy, rFd, evX, Int.reduceEq, Int.reduceLT, Int.reduceLE, Nat.reduceMul, Nat.reduceMod, evW, evR, Nat.reduceAdd, Nat.reduceLT, Nat.reduceLeDiff, reduceIte, Nat.reduceEqDiff, reduceCtorEq, argEnv, eq_self, if_true, if_false, *])
        generalize hz : itLim _ _ = z
        rcases l34b b x i hlt hb.indexes (H ++ (G ++ [bSe x])) b1 (H.length + G.length) (fun X => by rw [List.append_assoc]; exact hs0 _) (.mk (by simp)) _ [] (by rfl) (by simp [bSe, rSe, hk, hm]) z hz with ⟨h, c, T, G', rfl, _, rfl, hT⟩ | ⟨h, c, T, G', rfl, _, rfl, hT⟩
        · simp only [hT, wrapS hlt hb.indexes, evX, Int.reduceEq, Int.reduceLT, Int.reduceLE, Nat.reduceMul, Nat.reduceMod, evW, fn_eq, evR, Nat.reduceAdd, Nat.reduceLT, Nat.reduceLeDiff, reduceIte, Nat.reduceEqDiff, reduceCtorEq, argEnv, eq_self, if_true, if_false]
          repeat' ((first | rw [guardK_cases] | rw [condK_bool] | rw [guardD_cases]); split <;> simp only [hT, wrapS hlt hb.indexes, evX, Int.reduceEq, Int.reduceLT, Int.reduceLE, Nat.reduceMul, Nat.reduceMod, evW, evR, Nat.reduceAdd, Nat.reduceLT, Nat.reduceLeDiff, reduceIte, Nat.reduceEqDiff, reduceCtorEq, argEnv, eq_self, if_true, if_false, *])
          exact Sc.next (by simp [seOk, h, n1, hf, atMost20]; omega) (by rfl)
        · simp only [hT, evX, Int.reduceEq, Int.reduceLT, Int.reduceLE, Nat.reduceMul, Nat.reduceMod, evW, fn_eq, evR, Nat.reduceAdd, Nat.reduceLT, Nat.reduceLeDiff, reduceIte, Nat.reduceEqDiff, reduceCtorEq, argEnv, eq_self, if_true, if_false]
          repeat' ((first | rw [guardK_cases] | rw [condK_bool] | rw [guardD_cases]); split <;> simp only [hT, evX, Int.reduceEq, Int.reduceLT, Int.reduceLE, Nat.reduceMul, Nat.reduceMod, evW, evR, Nat.reduceAdd, Nat.reduceLT, Nat.reduceLeDiff, reduceIte, Nat.reduceEqDiff, reduceCtorEq, argEnv, eq_self, if_true, if_false, *])
          exact Sc.ret (by simp [seOk, h]) ⟨rfl, hT⟩)
    (fun E G hE => by
      simp only [c34_l3, hE, hs, hlen, Int.lt_irrefl, evX, Int.reduceEq, Int.reduceLT, Int.reduceLE, Nat.reduceMul, Nat.reduceMod, evW, fn_eq, evR, Nat.reduceAdd, Nat.reduceLT, Nat.reduceLeDiff, reduceIte, Nat.reduceEqDiff, reduceCtorEq, argEnv, eq_self, if_true, if_false]
      repeat' ((first | rw [guardK_cases] | rw [condK_bool] | rw [guardD_cases]); split <;> simp only [c34_l3, hE, hs, hlen, Int.lt_irrefl, evX, Int.reduceEq, Int.reduceLT, Int.reduceLE, Nat.reduceMul, Nat.reduceMod, evW, evR, Nat.reduceAdd, Nat.reduceLT, Nat.reduceLeDiff, reduceIte, Nat.reduceEqDiff, reduceCtorEq, argEnv, eq_self, if_true, if_false, *])
      exact .exit (K := []) rfl) st G hE hH z hz
  rcases L with ⟨h, L⟩ | ⟨i, f, hx, h, _, L⟩
  · exact .inl ⟨tell_pos h, L⟩
  · exact .inr ⟨tell_neg fun h' => by rw [h' i f hx] at h; (cases h), L⟩
theorem f34 (b : Base) (hb : b.Ok) (H : Heap) : cal (evC cprog) false 34 [eBase b] H = some (.bool (validB b), H) := by
  rw [cal_of at34]
  have hn := f60 b.name hb.name
  have hlen := (sTys [] b.types).len
  have hlen' := (sSes [] b.indexes).len
  simp only [List.length_map] at hlen hlen'
  cases n1 : isName b.name && decide (1 ≤ b.kind) && decide (b.kind ≤ 4) && decide ((1 : Int) ≤ b.types.length) && decide ((b.types.length : Int) ≤ 8) && decide ((b.indexes.length : Int) ≤ 3) with
  | false =>
    have hv : validB b = false := by
      simp only [validB, areTys] at *
      cases h1 : isName b.name <;> cases h2 : decide (1 ≤ b.kind) <;> cases h3 : decide (b.kind ≤ 4) <;> cases h4 : decide ((1 : Int) ≤ b.types.length) <;> cases h5 : decide ((b.types.length : Int) ≤ 8) <;> cases h6 : decide ((b.indexes.length : Int) ≤ 3) <;> simp_all
    rw [hv]
    simp only [Bool.and_eq_false_iff, decide_eq_false_iff_not] at n1
    simp only [c34, eBase, hn, hlen, hlen', evX, Int.reduceEq, Int.reduceLT, Int.reduceLE, Nat.reduceMul, Nat.reduceMod, evW, fn_eq, evR, Nat.reduceAdd, Nat.reduceLT, Nat.reduceLeDiff, reduceIte, Nat.reduceEqDiff, reduceCtorEq, argEnv, eq_self, if_true, if_false]
    repeat' ((first | rw [guardK_cases] | rw [condK_bool] | rw [guardD_cases]); split <;> simp only [c34, eBase, hn, hlen, hlen', evX, Int.reduceEq, Int.reduceLT, Int.reduceLE, Nat.reduceMul, Nat.reduceMod, evW, evR, Nat.reduceAdd, Nat.reduceLT, Nat.reduceLeDiff, reduceIte, Nat.reduceEqDiff, reduceCtorEq, argEnv, eq_self, if_true, if_false, *])
    exfalso
    simp only [decide_eq_true_eq] at *
    rename_i g1 g2 g3 g4 g5 g6
    rcases n1 with ((((n1 | n1) | n1) | n1) | n1) | n1
    · simp [n1] at g1
    all_goals omega
  | true =>
    simp only [Bool.and_eq_true, decide_eq_true_eq] at n1
    obtain ⟨⟨⟨⟨⟨n1, n2⟩, n3⟩, n4⟩, n5⟩, n6⟩ := n1
    have m2 : ¬ b.kind < 1 := by omega
    have m3 : ¬ 4 < b.kind := by omega
    have m4 : ¬ (b.types.length : Int) < 1 := by omega
    have m5 : ¬ (8 : Int) < (b.types.length : Int) := by omega
    have m6 : ¬ (3 : Int) < (b.indexes.length : Int) := by omega
    have hv : validB b = (tysOk b.types && sesOk b.types b.indexes) := by
      simp only [validB, areTys, n1, decide_eq_true n2, decide_eq_true n3, decide_eq_true n4, decide_eq_true n5, decide_eq_true n6, Bool.true_and, Bool.and_true]
    rw [hv]
    simp only [c34, eBase, hn, hlen, hlen', n1, m2, m3, m4, m5, m6, evX, Int.reduceEq, Int.reduceLT, Int.reduceLE, Nat.reduceMul, Nat.reduceMod, evW, fn_eq, evR, Nat.reduceAdd, Nat.reduceLT, Nat.reduceLeDiff, reduceIte, Nat.reduceEqDiff, reduceCtorEq, argEnv, eq_self, if_true, if_false]
    repeat' ((first | rw [guardK_cases] | rw [condK_bool] | rw [guardD_cases]); split <;> simp only [c34, eBase, hn, hlen, hlen', n1, m2, m3, m4, m5, m6, evX, Int.reduceEq, Int.reduceLT, Int.reduceLE, Nat.reduceMul, Nat.reduceMod, evW, evR, Nat.reduceAdd, Nat.reduceLT, Nat.reduceLeDiff, reduceIte, Nat.reduceEqDiff, reduceCtorEq, argEnv, eq_self, if_true, if_false, *])
    generalize hz : itLim _ _ = z
    rcases m34 b hb (by omega) (H ++ [bBase b]) H.length (.mk (by simp)) _ [] (by rfl) (by simp [bBase]) z hz with ⟨h, c, T, G', rfl, _, rfl, hT⟩ | ⟨h, c, T, G', rfl, _, rfl, hT⟩
    · simp only [hT, h, evX, Int.reduceEq, Int.reduceLT, Int.reduceLE, Nat.reduceMul, Nat.reduceMod, evW, fn_eq, evR, Nat.reduceAdd, Nat.reduceLT, Nat.reduceLeDiff, reduceIte, Nat.reduceEqDiff, reduceCtorEq, argEnv, eq_self, if_true, if_false]
      repeat' ((first | rw [guardK_cases] | rw [condK_bool] | rw [guardD_cases]); split <;> simp only [hT, h, evX, Int.reduceEq, Int.reduceLT, Int.reduceLE, Nat.reduceMul, Nat.reduceMod, evW, evR, Nat.reduceAdd, Nat.reduceLT, Nat.reduceLeDiff, reduceIte, Nat.reduceEqDiff, reduceCtorEq, argEnv, eq_self, if_true, if_false, *])
      generalize hz : itLim _ _ = z
      rcases n34 b hb (H ++ [bBase b]) H.length (.mk (by simp)) _ G' (by rfl) (by simp) z hz with ⟨h, c, T, G', rfl, _, rfl⟩ | ⟨h, c, T, G', rfl, _, rfl, hT⟩
      · simp only [h, evX, Int.reduceEq, Int.reduceLT, Int.reduceLE, Nat.reduceMul, Nat.reduceMod, evW, fn_eq, evR, Nat.reduceAdd, Nat.reduceLT, Nat.reduceLeDiff, reduceIte, Nat.reduceEqDiff, reduceCtorEq, argEnv, eq_self, if_true, if_false]
        repeat' ((first | rw [guardK_cases] | rw [condK_bool] | rw [guardD_cases]); split <;> simp only [h, evX, Int.reduceEq, Int.reduceLT, Int.reduceLE, Nat.reduceMul, Nat.reduceMod, evW, evR, Nat.reduceAdd, Nat.reduceLT, Nat.reduceLeDiff, reduceIte, Nat.reduceEqDiff, reduceCtorEq, argEnv, eq_self, if_true, if_false, *])
      · simp only [h, hT, evX, Int.reduceEq, Int.reduceLT, Int.reduceLE, Nat.reduceMul, Nat.reduceMod, evW, fn_eq, evR, Nat.reduceAdd, Nat.reduceLT, Nat.reduceLeDiff, reduceIte, Nat.reduceEqDiff, reduceCtorEq, argEnv, eq_self, if_true, if_false]
        repeat' ((first | rw [guardK_cases] | rw [condK_bool] | rw [guardD_cases]); split <;> simp only [h, hT, evX, Int.reduceEq, Int.reduceLT, Int.reduceLE, Nat.reduceMul, Nat.reduceMod, evW, evR, Nat.reduceAdd, Nat.reduceLT, Nat.reduceLeDiff, reduceIte, Nat.reduceEqDiff, reduceCtorEq, argEnv, eq_self, if_true, if_false, *])
    · simp only [h, hT, evX, Int.reduceEq, Int.reduceLT, Int.reduceLE, Nat.reduceMul, Nat.reduceMod, evW, fn_eq, evR, Nat.reduceAdd, Nat.reduceLT, Nat.reduceLeDiff, reduceIte, Nat.reduceEqDiff, reduceCtorEq, argEnv, eq_self, if_true, if_false]
      repeat' ((first | rw [guardK_cases] | rw [condK_bool] | rw [guardD_cases]); split <;> simp only [h, hT, evX, Int.reduceEq, Int.reduceLT, Int.reduceLE, Nat.reduceMul, Nat.reduceMod, evW, evR, Nat.reduceAdd, Nat.reduceLT, Nat.reduceLeDiff, reduceIte, Nat.reduceEqDiff, reduceCtorEq, argEnv, eq_self, if_true, if_false, *])
end Go.Proofs.Ytcbmakanokmdjaa.Code
