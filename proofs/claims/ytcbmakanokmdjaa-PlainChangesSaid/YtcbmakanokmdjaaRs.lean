/- plain: which lists are forests, as the document asks. -/
import Derived.Test.YtcbmakanokmdjaaRr
set_option linter.unusedSimpArgs false
set_option linter.unusedVariables false
namespace Go.Proofs.Ytcbmakanokmdjaa.Code
open Go.Proofs.Ytcbmakanokmdjaa.Ev

theorem k35 (b : Base) (f : List Item) (hl : f.length ≤ 1000) (H : Heap) (b1 : Nat) (hs1 : Sits H b1 (bBase b)) (st : St) (G : Heap) (hE : keepEnv st.1 [1, 2, 5] = [(1, eItems f), (2, .ptr b1 0 4 0 0), (5, .int .i64 0)]) (hH : st.2 = H ++ ([] ++ G)) (z : Option (CX × St)) (hz : itLim (evCode (evC cprog) itLim c35_l0) st = z) :
    (f.all (fits b.types) = true ∧ Lv H [] (fun c T => c = .exit 0 ∧ keepEnv T [1, 2] = [(1, eItems f), (2, .ptr b1 0 4 0 0)]) z) ∨ (f.all (fits b.types) = false ∧ Lv H [] (fun c T => c = .ret ∧ get T 4 = some (.bool false)) z) := by
  have hlen := (sItems [] f).len
  have hlen' := (sTys [] b.types).len
  simp only [List.length_map] at hlen hlen'
  have hs := hs1
  simp only [bBase, Sits] at hs
  exact all_rule f (fits b.types) [1, 2, 5] (fun i => [(1, eItems f), (2, .ptr b1 0 4 0 0), (5, .int .i64 (i : Int))]) H [] (evCode (evC cprog) itLim c35_l0) _ _
    (fun i x hx E G hE => by
      have hlt : i < f.length := (List.getElem?_eq_some_iff.1 hx).1
      have hi : (i : Int) < (f.length : Int) := by omega
      have ha := aItem hx
      have hw := wrapS hlt (by omega)
      by_cases h1 : x.type < 0
      · simp only [c35_l0, hE, hi, hs, ha, hlen, h1, rItem, evX, Int.reduceEq, Int.reduceLT, Int.reduceLE, Nat.reduceMul, Nat.reduceMod, evW, fn_eq, evR, Nat.reduceAdd, Nat.reduceLT, Nat.reduceLeDiff, reduceIte, Nat.reduceEqDiff, reduceCtorEq, argEnv, eq_self, if_true, if_false]
        repeat' ((first | rw [guardK_cases] | rw [condK_bool] | rw [guardD_cases]); split <;> simp only [c35_l0, hE, hi, hs, ha, hlen, h1, rItem, evX, Int.reduceEq, Int.reduceLT, Int.reduceLE, Nat.reduceMul, Nat.reduceMod, evW, evR, Nat.reduceAdd, Nat.reduceLT, Nat.reduceLeDiff, reduceIte, Nat.reduceEqDiff, reduceCtorEq, argEnv, eq_self, if_true, if_false, *])
        exact Sc.ret (fits_none (by omega)) ⟨rfl, by rfl⟩
      by_cases h2 : (b.types.length : Int) ≤ x.type
      · simp only [c35_l0, hE, hi, hs, ha, hlen, hlen', h1, h2, rItem, evX, Int.reduceEq, Int.reduceLT, Int.reduceLE, Nat.reduceMul, Nat.reduceMod, evW, fn_eq, evR, Nat.reduceAdd, Nat.reduceLT, Nat.reduceLeDiff, reduceIte, Nat.reduceEqDiff, reduceCtorEq, argEnv, eq_self, if_true, if_false]
        repeat' ((first | rw [guardK_cases] | rw [condK_bool] | rw [guardD_cases]); split <;> simp only [c35_l0, hE, hi, hs, ha, hlen, hlen', h1, h2, rItem, evX, Int.reduceEq, Int.reduceLT, Int.reduceLE, Nat.reduceMul, Nat.reduceMod, evW, evR, Nat.reduceAdd, Nat.reduceLT, Nat.reduceLeDiff, reduceIte, Nat.reduceEqDiff, reduceCtorEq, argEnv, eq_self, if_true, if_false, *])
        exact Sc.ret (fits_none (by omega)) ⟨rfl, by rfl⟩
      obtain ⟨k, hk⟩ : ∃ k : Nat, x.type = (k : Int) := ⟨x.type.toNat, by omega⟩
      obtain ⟨t, ht⟩ : ∃ t, b.types[k]? = some t := ⟨_, List.getElem?_eq_getElem (by omega)⟩
      have hat := aTy ht
      rw [← hk] at hat
      by_cases h3 : (x.data.size : Int) < t.min
      · simp only [c35_l0, hE, hi, hs, ha, hat, hlen, hlen', h1, h2, h3, rItem, rTy, evX, Int.reduceEq, Int.reduceLT, Int.reduceLE, Nat.reduceMul, Nat.reduceMod, evW, fn_eq, evR, Nat.reduceAdd, Nat.reduceLT, Nat.reduceLeDiff, reduceIte, Nat.reduceEqDiff, reduceCtorEq, argEnv, eq_self, if_true, if_false]
        repeat' ((first | rw [guardK_cases] | rw [condK_bool] | rw [guardD_cases]); split <;> simp only [c35_l0, hE, hi, hs, ha, hat, hlen, hlen', h1, h2, h3, rItem, rTy, evX, Int.reduceEq, Int.reduceLT, Int.reduceLE, Nat.reduceMul, Nat.reduceMod, evW, evR, Nat.reduceAdd, Nat.reduceLT, Nat.reduceLeDiff, reduceIte, Nat.reduceEqDiff, reduceCtorEq, argEnv, eq_self, if_true, if_false, *])
        exact Sc.ret (by rw [fits_at hk ht, decide_eq_false (by omega)]; rfl) ⟨rfl, by rfl⟩
      by_cases h4 : t.size < (x.data.size : Int)
      · simp only [c35_l0, hE, hi, hs, ha, hat, hlen, hlen', h1, h2, h3, h4, rItem, rTy, evX, Int.reduceEq, Int.reduceLT, Int.reduceLE, Nat.reduceMul, Nat.reduceMod, evW, fn_eq, evR, Nat.reduceAdd, Nat.reduceLT, Nat.reduceLeDiff, reduceIte, Nat.reduceEqDiff, reduceCtorEq, argEnv, eq_self, if_true, if_false]
        repeat' ((first | rw [guardK_cases] | rw [condK_bool] | rw [guardD_cases]); split <;> simp only [c35_l0, hE, hi, hs, ha, hat, hlen, hlen', h1, h2, h3, h4, rItem, rTy, evX, Int.reduceEq, Int.reduceLT, Int.reduceLE, Nat.reduceMul, Nat.reduceMod, evW, evR, Nat.reduceAdd, Nat.reduceLT, Nat.reduceLeDiff, reduceIte, Nat.reduceEqDiff, reduceCtorEq, argEnv, eq_self, if_true, if_false, *])
        exact Sc.ret (by rw [fits_at hk ht, decide_eq_false (show ¬ (x.data.size : Int) ≤ t.size by omega), Bool.and_false]) ⟨rfl, by rfl⟩
      · simp only [c35_l0, hE, hi, hs, ha, hat, hlen, hlen', h1, h2, h3, h4, hw, rItem, rTy, evX, Int.reduceEq, Int.reduceLT, Int.reduceLE, Nat.reduceMul, Nat.reduceMod, evW, fn_eq, evR, Nat.reduceAdd, Nat.reduceLT, Nat.reduceLeDiff, reduceIte, Nat.reduceEqDiff, reduceCtorEq, argEnv, eq_self, if_true, if_false]
        repeat' ((first | rw [guardK_cases] | rw [condK_bool] | rw [guardD_cases]); split <;> simp only [c35_l0, hE, hi, hs, ha, hat, hlen, hlen', h1, h2, h3, h4, hw, rItem, rTy, evX, Int.reduceEq, Int.reduceLT, Int.reduceLE, Nat.reduceMul, Nat.reduceMod, evW, evR, Nat.reduceAdd, Nat.reduceLT, Nat.reduceLeDiff, reduceIte, Nat.reduceEqDiff, reduceCtorEq, argEnv, eq_self, if_true, if_false, *])
        exact Sc.next (by rw [fits_at hk ht, decide_eq_true (by omega), decide_eq_true (by omega)]; rfl) (by rfl))
    (fun E G hE => by
      simp only [c35_l0, hE, hlen, Int.lt_irrefl, evX, Int.reduceEq, Int.reduceLT, Int.reduceLE, Nat.reduceMul, Nat.reduceMod, evW, fn_eq, evR, Nat.reduceAdd, Nat.reduceLT, Nat.reduceLeDiff, reduceIte, Nat.reduceEqDiff, reduceCtorEq, argEnv, eq_self, if_true, if_false]
      repeat' ((first | rw [guardK_cases] | rw [condK_bool] | rw [guardD_cases]); split <;> simp only [c35_l0, hE, hlen, Int.lt_irrefl, evX, Int.reduceEq, Int.reduceLT, Int.reduceLE, Nat.reduceMul, Nat.reduceMod, evW, evR, Nat.reduceAdd, Nat.reduceLT, Nat.reduceLeDiff, reduceIte, Nat.reduceEqDiff, reduceCtorEq, argEnv, eq_self, if_true, if_false, *])
      exact .exit (K := []) ⟨rfl, by rfl⟩) st G hE hH z hz
theorem m35 (b : Base) (ht : tysOk b.types = true) (f : List Item) (hfit : AllFit b.types f) (hl : f.length ≤ 1000) (H : Heap) (b1 : Nat) (hs1 : Sits H b1 (bBase b)) (st : St) (G : Heap) (hE : keepEnv st.1 [1, 2, 6] = [(1, eItems f), (2, .ptr b1 0 4 0 0), (6, .int .i64 0)]) (hH : st.2 = H ++ ([] ++ G)) (z : Option (CX × St)) (hz : itLim (evCode (evC cprog) itLim c35_l2) st = z) :
    (tell (∀ (i : Nat) (x : Item), f[i]? = some x → okAt b.types f i x = true) = true ∧ Lv H [] (fun c T => c = .exit 2) z) ∨ (tell (∀ (i : Nat) (x : Item), f[i]? = some x → okAt b.types f i x = true) = false ∧ Lv H [] (fun c T => c = .ret ∧ get T 4 = some (.bool false)) z) := by
  have hlen := (sItems [] f).len
  simp only [List.length_map] at hlen
  have hs := hs1
  simp only [bBase, Sits] at hs
  have L := scan_pre f (okAt b.types f) [1, 2, 6] (fun i => [(1, eItems f), (2, .ptr b1 0 4 0 0), (6, .int .i64 (i : Int))]) H [] (evCode (evC cprog) itLim c35_l2) (fun c T => c = .exit 2) (fun _ _ c T => c = .ret ∧ get T 4 = some (.bool false))
    (fun i x hx hpre E G hE => by
      have hlt : i < f.length := (List.getElem?_eq_some_iff.1 hx).1
      have hi : (i : Int) < (f.length : Int) := by omega
      have ha := aItem hx
      have hw := wrapS hlt (by omega)
      have hft := hfit i x hx
      obtain ⟨k, t, hk, hkl, htk, hmin, hmax⟩ := fits_some hft
      have hat := aTy htk
      rw [← hk] at hat
      have hpt : tpar b.types x.type = t.parent := by rw [hk, tpar_at htk]
      have hty : tyOk t = true := by have := tell_true.1 ht k t htk; simp only [tyAt, Bool.and_eq_true] at this; exact this.1.1.1
      have htyo : tyOf b.types x.type = t := by rw [hk, tyOf_at htk]
      have h64 := f64 b f i x hx k t hk htk hl
      simp only [eBase] at h64
      have hb := par_lt b.types f i
      have hwm : IntKind.i64.wrap ((i : Int) - 1) = (i : Int) - 1 := wrap_i64 (by omega) (by omega)
      by_cases hA : par b.types f i < 0 ∧ x.type ≠ 0
      · obtain ⟨hA1, hA2⟩ := hA
        simp only [c35_l2, hE, hi, hs, ha, hlen, h64, hA1, hA2, rItem, evX, Int.reduceEq, Int.reduceLT, Int.reduceLE, Nat.reduceMul, Nat.reduceMod, evW, fn_eq, evR, Nat.reduceAdd, Nat.reduceLT, Nat.reduceLeDiff, reduceIte, Nat.reduceEqDiff, reduceCtorEq, argEnv, eq_self, if_true, if_false]
        repeat' ((first | rw [guardK_cases] | rw [condK_bool] | rw [guardD_cases]); split <;> simp only [c35_l2, hE, hi, hs, ha, hlen, h64, hA1, hA2, rItem, evX, Int.reduceEq, Int.reduceLT, Int.reduceLE, Nat.reduceMul, Nat.reduceMod, evW, evR, Nat.reduceAdd, Nat.reduceLT, Nat.reduceLeDiff, reduceIte, Nat.reduceEqDiff, reduceCtorEq, argEnv, eq_self, if_true, if_false, *])
        refine Sc.ret ?_ ⟨rfl, rfl⟩
        have h1 : ¬ t.parent < 0 := fun h => by have := (tys_root ht htk).1 h; omega
        have h2 : par b.types f i ∉ way b.types f i := fun h => by have := way_bound h; omega
        rw [okAt, hpt, decide_eq_false h1, tell_neg h2]; simp
      have hcont : ∃ u, (decide (par b.types f i < 0) = true ∧ decide (x.type = 0) = true ∧ u = ()) ∨ (decide (par b.types f i < 0) = false ∧ u = ()) := ⟨(), by
        by_cases h : par b.types f i < 0
        · exact .inl ⟨decide_eq_true h, decide_eq_true (Classical.byContradiction fun h' => hA ⟨h, h'⟩), rfl⟩
        · exact .inr ⟨decide_eq_false h, rfl⟩⟩
      obtain ⟨_, ⟨c1, c2, _⟩ | ⟨c1, _⟩⟩ := hcont
      · simp only [c35_l2, hE, hi, hs, ha, hlen, h64, c1, c2, hwm, rItem, evX, Int.reduceEq, Int.reduceLT, Int.reduceLE, Nat.reduceMul, Nat.reduceMod, evW, fn_eq, evR, Nat.reduceAdd, Nat.reduceLT, Nat.reduceLeDiff, reduceIte, Nat.reduceEqDiff, reduceCtorEq, argEnv, eq_self, if_true, if_false]
        repeat' ((first | rw [guardK_cases] | rw [condK_bool] | rw [guardD_cases]); split <;> simp only [c35_l2, hE, hi, hs, ha, hlen, h64, c1, c2, hwm, rItem, evX, Int.reduceEq, Int.reduceLT, Int.reduceLE, Nat.reduceMul, Nat.reduceMod, evW, evR, Nat.reduceAdd, Nat.reduceLT, Nat.reduceLeDiff, reduceIte, Nat.reduceEqDiff, reduceCtorEq, argEnv, eq_self, if_true, if_false, *])
        generalize hz : itLim _ _ = z
        obtain ⟨T, K, rfl, hT, k1, k2, hW⟩ := l35 b f hfit hl i hlt H b1 hs1 (par b.types f i) hb.1 _ G (by rfl) (by rfl) z hz
        rcases hW with ⟨g1, g2⟩ | ⟨g0, ⟨rfl, g1⟩ | ⟨g1, g2⟩⟩
        · simp only [hT, g1, evX, Int.reduceEq, Int.reduceLT, Int.reduceLE, Nat.reduceMul, Nat.reduceMod, evW, fn_eq, evR, Nat.reduceAdd, Nat.reduceLT, Nat.reduceLeDiff, reduceIte, Nat.reduceEqDiff, reduceCtorEq, argEnv, eq_self, if_true, if_false]
          repeat' ((first | rw [guardK_cases] | rw [condK_bool] | rw [guardD_cases]); split <;> simp only [hT, g1, evX, Int.reduceEq, Int.reduceLT, Int.reduceLE, Nat.reduceMul, Nat.reduceMod, evW, evR, Nat.reduceAdd, Nat.reduceLT, Nat.reduceLeDiff, reduceIte, Nat.reduceEqDiff, reduceCtorEq, argEnv, eq_self, if_true, if_false, *])
          refine Sc.ret ?_ ⟨rfl, rfl⟩
          have h1 := (par_typ (ts := b.types) (f := f) (i := i) (by omega)).2
          rw [typ_at hx] at h1
          rw [okAt, decide_eq_false (by omega), tell_neg g2]; simp
        · have hok : (decide (tpar b.types x.type < 0) || tell (par b.types f i ∈ way b.types f i)) = true := by
            rcases g0 with g0 | g0
            · have h0 : x.type = 0 := Classical.byContradiction fun h' => hA ⟨g0, h'⟩
              rw [hpt, decide_eq_true ((tys_root ht htk).2 (by omega))]; rfl
            · rw [tell_pos g0]; simp
          have hsib : sibOk b.types f i x = true := by simp only [sibOk, nOf, g1]
          simp only [hT, Int.lt_irrefl, hw, evX, Int.reduceEq, Int.reduceLT, Int.reduceLE, Nat.reduceMul, Nat.reduceMod, evW, fn_eq, evR, Nat.reduceAdd, Nat.reduceLT, Nat.reduceLeDiff, reduceIte, Nat.reduceEqDiff, reduceCtorEq, argEnv, eq_self, if_true, if_false]
          repeat' ((first | rw [guardK_cases] | rw [condK_bool] | rw [guardD_cases]); split <;> simp only [hT, Int.lt_irrefl, hw, evX, Int.reduceEq, Int.reduceLT, Int.reduceLE, Nat.reduceMul, Nat.reduceMod, evW, evR, Nat.reduceAdd, Nat.reduceLT, Nat.reduceLeDiff, reduceIte, Nat.reduceEqDiff, reduceCtorEq, argEnv, eq_self, if_true, if_false, *])
          exact Sc.next (by rw [okAt, hft, hok, hsib]; rfl) (by rfl)
        · have hok : (decide (tpar b.types x.type < 0) || tell (par b.types f i ∈ way b.types f i)) = true := by
            rcases g0 with g0 | g0
            · have h0 : x.type = 0 := Classical.byContradiction fun h' => hA ⟨g0, h'⟩
              rw [hpt, decide_eq_true ((tys_root ht htk).2 (by omega))]; rfl
            · rw [tell_pos g0]; simp
          have hKb := way_bound (List.mem_of_getElem? g2)
          obtain ⟨a, rfl⟩ : ∃ a : Nat, K = (a : Int) := ⟨K.toNat, by omega⟩
          obtain ⟨y, hy⟩ : ∃ y, f[a]? = some y := ⟨_, List.getElem?_eq_getElem (by omega)⟩
          have hya := aItem hy
          have n1 : ¬ (a : Int) < par b.types f i := by omega
          have n2 : ¬ (a : Int) = par b.types f i := by omega
          have hsib : sibOk b.types f i x = ordOk b.types f (a : Int) x := by simp only [sibOk, nOf, g2]
          simp only [ordOk, typ_at hy, dat_at hy, htyo] at hsib
          by_cases o1 : x.type < y.type
          · simp only [hT, n1, n2, ha, hya, o1, rItem, evX, Int.reduceEq, Int.reduceLT, Int.reduceLE, Nat.reduceMul, Nat.reduceMod, evW, fn_eq, evR, Nat.reduceAdd, Nat.reduceLT, Nat.reduceLeDiff, reduceIte, Nat.reduceEqDiff, reduceCtorEq, argEnv, eq_self, if_true, if_false]
            repeat' ((first | rw [guardK_cases] | rw [condK_bool] | rw [guardD_cases]); split <;> simp only [hT, n1, n2, ha, hya, o1, rItem, evX, Int.reduceEq, Int.reduceLT, Int.reduceLE, Nat.reduceMul, Nat.reduceMod, evW, evR, Nat.reduceAdd, Nat.reduceLT, Nat.reduceLeDiff, reduceIte, Nat.reduceEqDiff, reduceCtorEq, argEnv, eq_self, if_true, if_false, *])
            exact Sc.ret (bad_sib (by rw [hsib, decide_eq_false (show ¬ y.type < x.type by omega), decide_eq_false (show ¬ y.type = x.type by omega)]; rfl)) ⟨rfl, rfl⟩
          by_cases o2 : y.type = x.type
          · have hfy := fits_some (hfit a y hy)
            obtain ⟨k', t', q1, _, q2, q3, _⟩ := hfy
            obtain rfl : k' = k := by omega
            rw [htk] at q2; cases q2
            have o0 : ¬ x.type < x.type := by omega
            by_cases o4 : 0 ≤ t.key
            · have h1 := f45 b y k' t (by omega) htk hty q3
              have h2 := f45 b x k' t hk htk hty hmin
              simp only [eBase, rItem, o2] at h1 h2
              have hin : inOrd t y.data x.data = (bLt (keyOf t y.data) (keyOf t x.data) || (decide (keyOf t y.data = keyOf t x.data) && !t.unique)) := by
                rw [inOrd, decide_eq_false (by omega)]; rfl
              rw [hin, decide_eq_false (show ¬ y.type < x.type by omega), decide_eq_true o2] at hsib
              cases o5 : bLt (keyOf t y.data) (keyOf t x.data) with
              | true =>
                have o6 : ¬ keyOf t y.data = keyOf t x.data := fun e => by rw [e, bLt_irrefl] at o5; cases o5
                rw [o5] at hsib
                simp only [hT, hs, n1, n2, ha, hya, hat, o0, o2, o4, o5, o6, h1, h2, hw, rItem, rTy, evX, Int.reduceEq, Int.reduceLT, Int.reduceLE, Nat.reduceMul, Nat.reduceMod, evW, fn_eq, evR, Nat.reduceAdd, Nat.reduceLT, Nat.reduceLeDiff, reduceIte, Nat.reduceEqDiff, reduceCtorEq, argEnv, eq_self, if_true, if_false]
                repeat' ((first | rw [guardK_cases] | rw [condK_bool] | rw [guardD_cases]); split <;> simp only [hT, hs, n1, n2, ha, hya, hat, o0, o2, o4, o5, o6, h1, h2, hw, rItem, rTy, evX, Int.reduceEq, Int.reduceLT, Int.reduceLE, Nat.reduceMul, Nat.reduceMod, evW, evR, Nat.reduceAdd, Nat.reduceLT, Nat.reduceLeDiff, reduceIte, Nat.reduceEqDiff, reduceCtorEq, argEnv, eq_self, if_true, if_false, *])
                exact Sc.next (by rw [okAt, hft, hok, hsib]; rfl) (by rfl)
              | false =>
                by_cases o6 : keyOf t y.data = keyOf t x.data
                · cases o7 : t.unique with
                  | true =>
                    rw [o5, o7] at hsib
                    simp only [hT, hs, n1, n2, ha, hya, hat, o0, o2, o4, o5, o6, o7, bLt_irrefl, h1, h2, rItem, rTy, evX, Int.reduceEq, Int.reduceLT, Int.reduceLE, Nat.reduceMul, Nat.reduceMod, evW, fn_eq, evR, Nat.reduceAdd, Nat.reduceLT, Nat.reduceLeDiff, reduceIte, Nat.reduceEqDiff, reduceCtorEq, argEnv, eq_self, if_true, if_false]
                    repeat' ((first | rw [guardK_cases] | rw [condK_bool] | rw [guardD_cases]); split <;> simp only [hT, hs, n1, n2, ha, hya, hat, o0, o2, o4, o5, o6, o7, bLt_irrefl, h1, h2, rItem, rTy, evX, Int.reduceEq, Int.reduceLT, Int.reduceLE, Nat.reduceMul, Nat.reduceMod, evW, evR, Nat.reduceAdd, Nat.reduceLT, Nat.reduceLeDiff, reduceIte, Nat.reduceEqDiff, reduceCtorEq, argEnv, eq_self, if_true, if_false, *])
                    exact Sc.ret (bad_sib (by rw [hsib]; simp)) ⟨rfl, rfl⟩
                  | false =>
                    rw [o5, o7, decide_eq_true o6] at hsib
                    simp only [hT, hs, n1, n2, ha, hya, hat, o0, o2, o4, o5, o6, o7, bLt_irrefl, h1, h2, hw, rItem, rTy, evX, Int.reduceEq, Int.reduceLT, Int.reduceLE, Nat.reduceMul, Nat.reduceMod, evW, fn_eq, evR, Nat.reduceAdd, Nat.reduceLT, Nat.reduceLeDiff, reduceIte, Nat.reduceEqDiff, reduceCtorEq, argEnv, eq_self, if_true, if_false]
                    repeat' ((first | rw [guardK_cases] | rw [condK_bool] | rw [guardD_cases]); split <;> simp only [hT, hs, n1, n2, ha, hya, hat, o0, o2, o4, o5, o6, o7, bLt_irrefl, h1, h2, hw, rItem, rTy, evX, Int.reduceEq, Int.reduceLT, Int.reduceLE, Nat.reduceMul, Nat.reduceMod, evW, evR, Nat.reduceAdd, Nat.reduceLT, Nat.reduceLeDiff, reduceIte, Nat.reduceEqDiff, reduceCtorEq, argEnv, eq_self, if_true, if_false, *])
                    exact Sc.next (by rw [okAt, hft, hok, hsib]; rfl) (by rfl)
                · rw [o5, decide_eq_false o6] at hsib
                  simp only [hT, hs, n1, n2, ha, hya, hat, o0, o2, o4, o5, o6, h1, h2, rItem, rTy, evX, Int.reduceEq, Int.reduceLT, Int.reduceLE, Nat.reduceMul, Nat.reduceMod, evW, fn_eq, evR, Nat.reduceAdd, Nat.reduceLT, Nat.reduceLeDiff, reduceIte, Nat.reduceEqDiff, reduceCtorEq, argEnv, eq_self, if_true, if_false]
                  repeat' ((first | rw [guardK_cases] | rw [condK_bool] | rw [guardD_cases]); split <;> simp only [hT, hs, n1, n2, ha, hya, hat, o0, o2, o4, o5, o6, h1, h2, rItem, rTy, evX, Int.reduceEq, Int.reduceLT, Int.reduceLE, Nat.reduceMul, Nat.reduceMod, evW, evR, Nat.reduceAdd, Nat.reduceLT, Nat.reduceLeDiff, reduceIte, Nat.reduceEqDiff, reduceCtorEq, argEnv, eq_self, if_true, if_false, *])
                  exact Sc.ret (bad_sib (by rw [hsib]; simp)) ⟨rfl, rfl⟩
            · have hin : inOrd t y.data x.data = true := by rw [inOrd, decide_eq_true (by omega)]; rfl
              rw [hin, decide_eq_true o2] at hsib
              simp only [hT, hs, n1, n2, ha, hya, hat, o0, o2, o4, hw, rItem, rTy, evX, Int.reduceEq, Int.reduceLT, Int.reduceLE, Nat.reduceMul, Nat.reduceMod, evW, fn_eq, evR, Nat.reduceAdd, Nat.reduceLT, Nat.reduceLeDiff, reduceIte, Nat.reduceEqDiff, reduceCtorEq, argEnv, eq_self, if_true, if_false]
              repeat' ((first | rw [guardK_cases] | rw [condK_bool] | rw [guardD_cases]); split <;> simp only [hT, hs, n1, n2, ha, hya, hat, o0, o2, o4, hw, rItem, rTy, evX, Int.reduceEq, Int.reduceLT, Int.reduceLE, Nat.reduceMul, Nat.reduceMod, evW, evR, Nat.reduceAdd, Nat.reduceLT, Nat.reduceLeDiff, reduceIte, Nat.reduceEqDiff, reduceCtorEq, argEnv, eq_self, if_true, if_false, *])
              exact Sc.next (by rw [okAt, hft, hok, hsib]; simp) (by rfl)
          · simp only [hT, hs, n1, n2, ha, hya, o1, o2, hw, rItem, rTy, evX, Int.reduceEq, Int.reduceLT, Int.reduceLE, Nat.reduceMul, Nat.reduceMod, evW, fn_eq, evR, Nat.reduceAdd, Nat.reduceLT, Nat.reduceLeDiff, reduceIte, Nat.reduceEqDiff, reduceCtorEq, argEnv, eq_self, if_true, if_false]
            repeat' ((first | rw [guardK_cases] | rw [condK_bool] | rw [guardD_cases]); split <;> simp only [hT, hs, n1, n2, ha, hya, o1, o2, hw, rItem, rTy, evX, Int.reduceEq, Int.reduceLT, Int.reduceLE, Nat.reduceMul, Nat.reduceMod, evW, evR, Nat.reduceAdd, Nat.reduceLT, Nat.reduceLeDiff, reduceIte, Nat.reduceEqDiff, reduceCtorEq, argEnv, eq_self, if_true, if_false, *])
            exact Sc.next (by rw [okAt, hft, hok, hsib, decide_eq_true (show y.type < x.type by omega)]; rfl) (by rfl)
      · simp only [c35_l2, hE, hi, hs, ha, hlen, h64, c1, hwm, rItem, evX, Int.reduceEq, Int.reduceLT, Int.reduceLE, Nat.reduceMul, Nat.reduceMod, evW, fn_eq, evR, Nat.reduceAdd, Nat.reduceLT, Nat.reduceLeDiff, reduceIte, Nat.reduceEqDiff, reduceCtorEq, argEnv, eq_self, if_true, if_false]
        repeat' ((first | rw [guardK_cases] | rw [condK_bool] | rw [guardD_cases]); split <;> simp only [c35_l2, hE, hi, hs, ha, hlen, h64, c1, hwm, rItem, evX, Int.reduceEq, Int.reduceLT, Int.reduceLE, Nat.reduceMul, Nat.reduceMod, evW, evR, Nat.reduceAdd, Nat.reduceLT, Nat.reduceLeDiff, reduceIte, Nat.reduceEqDiff, reduceCtorEq, argEnv, eq_self, if_true, if_false, *])
        generalize hz : itLim _ _ = z
        obtain ⟨T, K, rfl, hT, k1, k2, hW⟩ := l35 b f hfit hl i hlt H b1 hs1 (par b.types f i) hb.1 _ G (by rfl) (by rfl) z hz
        rcases hW with ⟨g1, g2⟩ | ⟨g0, ⟨rfl, g1⟩ | ⟨g1, g2⟩⟩
        · simp only [hT, g1, evX, Int.reduceEq, Int.reduceLT, Int.reduceLE, Nat.reduceMul, Nat.reduceMod, evW, fn_eq, evR, Nat.reduceAdd, Nat.reduceLT, Nat.reduceLeDiff, reduceIte, Nat.reduceEqDiff, reduceCtorEq, argEnv, eq_self, if_true, if_false]
          repeat' ((first | rw [guardK_cases] | rw [condK_bool] | rw [guardD_cases]); split <;> simp only [hT, g1, evX, Int.reduceEq, Int.reduceLT, Int.reduceLE, Nat.reduceMul, Nat.reduceMod, evW, evR, Nat.reduceAdd, Nat.reduceLT, Nat.reduceLeDiff, reduceIte, Nat.reduceEqDiff, reduceCtorEq, argEnv, eq_self, if_true, if_false, *])
          refine Sc.ret ?_ ⟨rfl, rfl⟩
          have h1 := (par_typ (ts := b.types) (f := f) (i := i) (by omega)).2
          rw [typ_at hx] at h1
          rw [okAt, decide_eq_false (by omega), tell_neg g2]; simp
        · have hok : (decide (tpar b.types x.type < 0) || tell (par b.types f i ∈ way b.types f i)) = true := by
            rcases g0 with g0 | g0
            · have h0 : x.type = 0 := Classical.byContradiction fun h' => hA ⟨g0, h'⟩
              rw [hpt, decide_eq_true ((tys_root ht htk).2 (by omega))]; rfl
            · rw [tell_pos g0]; simp
          have hsib : sibOk b.types f i x = true := by simp only [sibOk, nOf, g1]
          simp only [hT, Int.lt_irrefl, hw, evX, Int.reduceEq, Int.reduceLT, Int.reduceLE, Nat.reduceMul, Nat.reduceMod, evW, fn_eq, evR, Nat.reduceAdd, Nat.reduceLT, Nat.reduceLeDiff, reduceIte, Nat.reduceEqDiff, reduceCtorEq, argEnv, eq_self, if_true, if_false]
          repeat' ((first | rw [guardK_cases] | rw [condK_bool] | rw [guardD_cases]); split <;> simp only [hT, Int.lt_irrefl, hw, evX, Int.reduceEq, Int.reduceLT, Int.reduceLE, Nat.reduceMul, Nat.reduceMod, evW, evR, Nat.reduceAdd, Nat.reduceLT, Nat.reduceLeDiff, reduceIte, Nat.reduceEqDiff, reduceCtorEq, argEnv, eq_self, if_true, if_false, *])
          exact Sc.next (by rw [okAt, hft, hok, hsib]; rfl) (by rfl)
        · have hok : (decide (tpar b.types x.type < 0) || tell (par b.types f i ∈ way b.types f i)) = true := by
            rcases g0 with g0 | g0
            · have h0 : x.type = 0 := Classical.byContradiction fun h' => hA ⟨g0, h'⟩
              rw [hpt, decide_eq_true ((tys_root ht htk).2 (by omega))]; rfl
            · rw [tell_pos g0]; simp
          have hKb := way_bound (List.mem_of_getElem? g2)
          obtain ⟨a, rfl⟩ : ∃ a : Nat, K = (a : Int) := ⟨K.toNat, by omega⟩
          obtain ⟨y, hy⟩ : ∃ y, f[a]? = some y := ⟨_, List.getElem?_eq_getElem (by omega)⟩
          have hya := aItem hy
          have n1 : ¬ (a : Int) < par b.types f i := by omega
          have n2 : ¬ (a : Int) = par b.types f i := by omega
          have hsib : sibOk b.types f i x = ordOk b.types f (a : Int) x := by simp only [sibOk, nOf, g2]
          simp only [ordOk, typ_at hy, dat_at hy, htyo] at hsib
          by_cases o1 : x.type < y.type
          · simp only [hT, n1, n2, ha, hya, o1, rItem, evX, Int.reduceEq, Int.reduceLT, Int.reduceLE, Nat.reduceMul, Nat.reduceMod, evW, fn_eq, evR, Nat.reduceAdd, Nat.reduceLT, Nat.reduceLeDiff, reduceIte, Nat.reduceEqDiff, reduceCtorEq, argEnv, eq_self, if_true, if_false]
            repeat' ((first | rw [guardK_cases] | rw [condK_bool] | rw [guardD_cases]); split <;> simp only [hT, n1, n2, ha, hya, o1, rItem, evX, Int.reduceEq, Int.reduceLT, Int.reduceLE, Nat.reduceMul, Nat.reduceMod, evW, evR, Nat.reduceAdd, Nat.reduceLT, Nat.reduceLeDiff, reduceIte, Nat.reduceEqDiff, reduceCtorEq, argEnv, eq_self, if_true, if_false, *])
            exact Sc.ret (bad_sib (by rw [hsib, decide_eq_false (show ¬ y.type < x.type by omega), decide_eq_false (show ¬ y.type = x.type by omega)]; rfl)) ⟨rfl, rfl⟩
          by_cases o2 : y.type = x.type
          · have hfy := fits_some (hfit a y hy)
            obtain ⟨k', t', q1, _, q2, q3, _⟩ := hfy
            obtain rfl : k' = k := by omega
            rw [htk] at q2; cases q2
            have o0 : ¬ x.type < x.type := by omega
            by_cases o4 : 0 ≤ t.key
            · have h1 := f45 b y k' t (by omega) htk hty q3
              have h2 := f45 b x k' t hk htk hty hmin
              simp only [eBase, rItem, o2] at h1 h2
              have hin : inOrd t y.data x.data = (bLt (keyOf t y.data) (keyOf t x.data) || (decide (keyOf t y.data = keyOf t x.data) && !t.unique)) := by
                rw [inOrd, decide_eq_false (by omega)]; rfl
              rw [hin, decide_eq_false (show ¬ y.type < x.type by omega), decide_eq_true o2] at hsib
              cases o5 : bLt (keyOf t y.data) (keyOf t x.data) with
              | true =>
                have o6 : ¬ keyOf t y.data = keyOf t x.data := fun e => by rw [e, bLt_irrefl] at o5; cases o5
                rw [o5] at hsib
                simp only [hT, hs, n1, n2, ha, hya, hat, o0, o2, o4, o5, o6, h1, h2, hw, rItem, rTy, evX, Int.reduceEq, Int.reduceLT, Int.reduceLE, Nat.reduceMul, Nat.reduceMod, evW, fn_eq, evR, Nat.reduceAdd, Nat.reduceLT, Nat.reduceLeDiff, reduceIte, Nat.reduceEqDiff, reduceCtorEq, argEnv, eq_self, if_true, if_false]
                repeat' ((first | rw [guardK_cases] | rw [condK_bool] | rw [guardD_cases]); split <;> simp only [hT, hs, n1, n2, ha, hya, hat, o0, o2, o4, o5, o6, h1, h2, hw, rItem, rTy, evX, Int.reduceEq, Int.reduceLT, Int.reduceLE, Nat.reduceMul, Nat.reduceMod, evW, evR, Nat.reduceAdd, Nat.reduceLT, Nat.reduceLeDiff, reduceIte, Nat.reduceEqDiff, reduceCtorEq, argEnv, eq_self, if_true, if_false, *])
                exact Sc.next (by rw [okAt, hft, hok, hsib]; rfl) (by rfl)
              | false =>
                by_cases o6 : keyOf t y.data = keyOf t x.data
                · cases o7 : t.unique with
                  | true =>
                    rw [o5, o7] at hsib
                    simp only [hT, hs, n1, n2, ha, hya, hat, o0, o2, o4, o5, o6, o7, bLt_irrefl, h1, h2, rItem, rTy, evX, Int.reduceEq, Int.reduceLT, Int.reduceLE, Nat.reduceMul, Nat.reduceMod, evW, fn_eq, evR, Nat.reduceAdd, Nat.reduceLT, Nat.reduceLeDiff, reduceIte, Nat.reduceEqDiff, reduceCtorEq, argEnv, eq_self, if_true, if_false]
                    repeat' ((first | rw [guardK_cases] | rw [condK_bool] | rw [guardD_cases]); split <;> simp only [hT, hs, n1, n2, ha, hya, hat, o0, o2, o4, o5, o6, o7, bLt_irrefl, h1, h2, rItem, rTy, evX, Int.reduceEq, Int.reduceLT, Int.reduceLE, Nat.reduceMul, Nat.reduceMod, evW, evR, Nat.reduceAdd, Nat.reduceLT, Nat.reduceLeDiff, reduceIte, Nat.reduceEqDiff, reduceCtorEq, argEnv, eq_self, if_true, if_false, *])
                    exact Sc.ret (bad_sib (by rw [hsib]; simp)) ⟨rfl, rfl⟩
                  | false =>
                    rw [o5, o7, decide_eq_true o6] at hsib
                    simp only [hT, hs, n1, n2, ha, hya, hat, o0, o2, o4, o5, o6, o7, bLt_irrefl, h1, h2, hw, rItem, rTy, evX, Int.reduceEq, Int.reduceLT, Int.reduceLE, Nat.reduceMul, Nat.reduceMod, evW, fn_eq, evR, Nat.reduceAdd, Nat.reduceLT, Nat.reduceLeDiff, reduceIte, Nat.reduceEqDiff, reduceCtorEq, argEnv, eq_self, if_true, if_false]
                    repeat' ((first | rw [guardK_cases] | rw [condK_bool] | rw [guardD_cases]); split <;> simp only [hT, hs, n1, n2, ha, hya, hat, o0, o2, o4, o5, o6, o7, bLt_irrefl, h1, h2, hw, rItem, rTy, evX, Int.reduceEq, Int.reduceLT, Int.reduceLE, Nat.reduceMul, Nat.reduceMod, evW, evR, Nat.reduceAdd, Nat.reduceLT, Nat.reduceLeDiff, reduceIte, Nat.reduceEqDiff, reduceCtorEq, argEnv, eq_self, if_true, if_false, *])
                    exact Sc.next (by rw [okAt, hft, hok, hsib]; rfl) (by rfl)
                · rw [o5, decide_eq_false o6] at hsib
                  simp only [hT, hs, n1, n2, ha, hya, hat, o0, o2, o4, o5, o6, h1, h2, rItem, rTy, evX, Int.reduceEq, Int.reduceLT, Int.reduceLE, Nat.reduceMul, Nat.reduceMod, evW, fn_eq, evR, Nat.reduceAdd, Nat.reduceLT, Nat.reduceLeDiff, reduceIte, Nat.reduceEqDiff, reduceCtorEq, argEnv, eq_self, if_true, if_false]
                  repeat' ((first | rw [guardK_cases] | rw [condK_bool] | rw [guardD_cases]); split <;> simp only [hT, hs, n1, n2, ha, hya, hat, o0, o2, o4, o5, o6, h1, h2, rItem, rTy, evX, Int.reduceEq, Int.reduceLT, Int.reduceLE, Nat.reduceMul, Nat.reduceMod, evW, evR, Nat.reduceAdd, Nat.reduceLT, Nat.reduceLeDiff, reduceIte, Nat.reduceEqDiff, reduceCtorEq, argEnv, eq_self, if_true, if_false, *])
                  exact Sc.ret (bad_sib (by rw [hsib]; simp)) ⟨rfl, rfl⟩
            · have hin : inOrd t y.data x.data = true := by rw [inOrd, decide_eq_true (by omega)]; rfl
              rw [hin, decide_eq_true o2] at hsib
              simp only [hT, hs, n1, n2, ha, hya, hat, o0, o2, o4, hw, rItem, rTy, evX, Int.reduceEq, Int.reduceLT, Int.reduceLE, Nat.reduceMul, Nat.reduceMod, evW, fn_eq, evR, Nat.reduceAdd, Nat.reduceLT, Nat.reduceLeDiff, reduceIte, Nat.reduceEqDiff, reduceCtorEq, argEnv, eq_self, if_true, if_false]
              repeat' ((first | rw [guardK_cases] | rw [condK_bool] | rw [guardD_cases]); split <;> simp only [hT, hs, n1, n2, ha, hya, hat, o0, o2, o4, hw, rItem, rTy, evX, Int.reduceEq, Int.reduceLT, Int.reduceLE, Nat.reduceMul, Nat.reduceMod, evW, evR, Nat.reduceAdd, Nat.reduceLT, Nat.reduceLeDiff, reduceIte, Nat.reduceEqDiff, reduceCtorEq, argEnv, eq_self, if_true, if_false, *])
              exact Sc.next (by rw [okAt, hft, hok, hsib]; simp) (by rfl)
          · simp only [hT, hs, n1, n2, ha, hya, o1, o2, hw, rItem, rTy, evX, Int.reduceEq, Int.reduceLT, Int.reduceLE, Nat.reduceMul, Nat.reduceMod, evW, fn_eq, evR, Nat.reduceAdd, Nat.reduceLT, Nat.reduceLeDiff, reduceIte, Nat.reduceEqDiff, reduceCtorEq, argEnv, eq_self, if_true, if_false]
            repeat' ((first | rw [guardK_cases] | rw [condK_bool] | rw [guardD_cases]); split <;> simp only [hT, hs, n1, n2, ha, hya, o1, o2, hw, rItem, rTy, evX, Int.reduceEq, Int.reduceLT, Int.reduceLE, Nat.reduceMul, Nat.reduceMod, evW, evR, Nat.reduceAdd, Nat.reduceLT, Nat.reduceLeDiff, reduceIte, Nat.reduceEqDiff, reduceCtorEq, argEnv, eq_self, if_true, if_false, *])
            exact Sc.next (by rw [okAt, hft, hok, hsib, decide_eq_true (show y.type < x.type by omega)]; rfl) (by rfl))
    (fun _ E G hE => by
      simp only [c35_l2, hE, hlen, Int.lt_irrefl, evX, Int.reduceEq, Int.reduceLT, Int.reduceLE, Nat.reduceMul, Nat.reduceMod, evW, fn_eq, evR, Nat.reduceAdd, Nat.reduceLT, Nat.reduceLeDiff, reduceIte, Nat.reduceEqDiff, reduceCtorEq, argEnv, eq_self, if_true, if_false]
      repeat' ((first | rw [guardK_cases] | rw [condK_bool] | rw [guardD_cases]); split <;> simp only [c35_l2, hE, hlen, Int.lt_irrefl, evX, Int.reduceEq, Int.reduceLT, Int.reduceLE, Nat.reduceMul, Nat.reduceMod, evW, evR, Nat.reduceAdd, Nat.reduceLT, Nat.reduceLeDiff, reduceIte, Nat.reduceEqDiff, reduceCtorEq, argEnv, eq_self, if_true, if_false, *])
      exact .exit (K := []) rfl) st G hE hH z hz
  rcases L with ⟨h, L⟩ | ⟨i, y, hx, h, _, L⟩
  · exact .inl ⟨tell_pos h, L⟩
  · exact .inr ⟨forest_bad hx h, L⟩
theorem f35 (b : Base) (ht : tysOk b.types = true) (f : List Item) (H : Heap) : cal (evC cprog) false 35 [eBase b, eItems f] H = some (.bool (forestOk b.types f), H) := by
  rw [cal_of at35]
  have hlen := (sItems [] f).len
  simp only [List.length_map] at hlen
  by_cases h : (200 : Int) < (f.length : Int)
  · have hv : forestOk b.types f = false := by unfold forestOk; rw [decide_eq_false (by omega)]; rfl
    rw [hv]
    simp only [c35, eBase, hlen, h, evX, Int.reduceEq, Int.reduceLT, Int.reduceLE, Nat.reduceMul, Nat.reduceMod, evW, fn_eq, evR, Nat.reduceAdd, Nat.reduceLT, Nat.reduceLeDiff, reduceIte, Nat.reduceEqDiff, reduceCtorEq, argEnv, eq_self, if_true, if_false]
    repeat' ((first | rw [guardK_cases] | rw [condK_bool] | rw [guardD_cases]); split <;> simp only [c35, eBase, hlen, h, evX, Int.reduceEq, Int.reduceLT, Int.reduceLE, Nat.reduceMul, Nat.reduceMod, evW, evR, Nat.reduceAdd, Nat.reduceLT, Nat.reduceLeDiff, reduceIte, Nat.reduceEqDiff, reduceCtorEq, argEnv, eq_self, if_true, if_false, *])
  · have hv : forestOk b.types f = tell (∀ (i : Nat) (x : Item), f[i]? = some x → okAt b.types f i x = true) := by unfold forestOk; rw [decide_eq_true (by omega)]; rfl
    rw [hv]
    simp only [c35, eBase, hlen, h, evX, Int.reduceEq, Int.reduceLT, Int.reduceLE, Nat.reduceMul, Nat.reduceMod, evW, fn_eq, evR, Nat.reduceAdd, Nat.reduceLT, Nat.reduceLeDiff, reduceIte, Nat.reduceEqDiff, reduceCtorEq, argEnv, eq_self, if_true, if_false]
    repeat' ((first | rw [guardK_cases] | rw [condK_bool] | rw [guardD_cases]); split <;> simp only [c35, eBase, hlen, h, evX, Int.reduceEq, Int.reduceLT, Int.reduceLE, Nat.reduceMul, Nat.reduceMod, evW, evR, Nat.reduceAdd, Nat.reduceLT, Nat.reduceLeDiff, reduceIte, Nat.reduceEqDiff, reduceCtorEq, argEnv, eq_self, if_true, if_false, *])
    generalize hz : itLim _ _ = z
    rcases k35 b f (by omega) (H ++ [bBase b]) H.length (.mk (by simp)) _ [] (by rfl) (by simp [bBase]) z hz with ⟨g, c, T, G', rfl, _, rfl, hT⟩ | ⟨g, c, T, G', rfl, _, rfl, hT⟩
    · have hfit : AllFit b.types f := fun i x hx => List.all_eq_true.1 g x (List.mem_of_getElem? hx)
      simp only [hT, evX, Int.reduceEq, Int.reduceLT, Int.reduceLE, Nat.reduceMul, Nat.reduceMod, evW, fn_eq, evR, Nat.reduceAdd, Nat.reduceLT, Nat.reduceLeDiff, reduceIte, Nat.reduceEqDiff, reduceCtorEq, argEnv, eq_self, if_true, if_false]
      repeat' ((first | rw [guardK_cases] | rw [condK_bool] | rw [guardD_cases]); split <;> simp only [hT, evX, Int.reduceEq, Int.reduceLT, Int.reduceLE, Nat.reduceMul, Nat.reduceMod, evW, evR, Nat.reduceAdd, Nat.reduceLT, Nat.reduceLeDiff, reduceIte, Nat.reduceEqDiff, reduceCtorEq, argEnv, eq_self, if_true, if_false, *])
      generalize hz : itLim _ _ = z
      rcases m35 b ht f hfit (by omega) (H ++ [bBase b]) H.length (.mk (by simp)) _ G' (by rfl) (by simp) z hz with ⟨g2, c, T, G', rfl, _, rfl⟩ | ⟨g2, c, T, G', rfl, _, rfl, hT⟩
      · rw [g2]
        simp only [evX, Int.reduceEq, Int.reduceLT, Int.reduceLE, Nat.reduceMul, Nat.reduceMod, evW, fn_eq, evR, Nat.reduceAdd, Nat.reduceLT, Nat.reduceLeDiff, reduceIte, Nat.reduceEqDiff, reduceCtorEq, argEnv, eq_self, if_true, if_false]
        repeat' ((first | rw [guardK_cases] | rw [condK_bool] | rw [guardD_cases]); split <;> simp only [evX, Int.reduceEq, Int.reduceLT, Int.reduceLE, Nat.reduceMul, Nat.reduceMod, evW, evR, Nat.reduceAdd, Nat.reduceLT, Nat.reduceLeDiff, reduceIte, Nat.reduceEqDiff, reduceCtorEq, argEnv, eq_self, if_true, if_false, *])
      · rw [g2]
        simp only [hT, evX, Int.reduceEq, Int.reduceLT, Int.reduceLE, Nat.reduceMul, Nat.reduceMod, evW, fn_eq, evR, Nat.reduceAdd, Nat.reduceLT, Nat.reduceLeDiff, reduceIte, Nat.reduceEqDiff, reduceCtorEq, argEnv, eq_self, if_true, if_false]
        repeat' ((first | rw [guardK_cases] | rw [condK_bool] | rw [guardD_cases]); split <;> simp only [hT, evX, Int.reduceEq, Int.reduceLT, Int.reduceLE, Nat.reduceMul, Nat.reduceMod, evW, evR, Nat.reduceAdd, Nat.reduceLT, Nat.reduceLeDiff, reduceIte, Nat.reduceEqDiff, reduceCtorEq, argEnv, eq_self, if_true, if_false, *])
    · have : tell (∀ (i : Nat) (x : Item), f[i]? = some x → okAt b.types f i x = true) = false := by
        obtain ⟨x, hx, h⟩ := List.all_eq_false.1 g
        obtain ⟨i, hi⟩ := List.getElem?_of_mem hx
        exact forest_bad hi (by simp [okAt, h])
      rw [this]
      simp only [hT, evX, Int.reduceEq, Int.reduceLT, Int.reduceLE, Nat.reduceMul, Nat.reduceMod, evW, fn_eq, evR, Nat.reduceAdd, Nat.reduceLT, Nat.reduceLeDiff, reduceIte, Nat.reduceEqDiff, reduceCtorEq, argEnv, eq_self, if_true, if_false]
      repeat' ((first | rw [guardK_cases] | rw [condK_bool] | rw [guardD_cases]); split <;> simp only [hT, evX, Int.reduceEq, Int.reduceLT, Int.reduceLE, Nat.reduceMul, Nat.reduceMod, evW, evR, Nat.reduceAdd, Nat.reduceLT, Nat.reduceLeDiff, reduceIte, Nat.reduceEqDiff, reduceCtorEq, argEnv, eq_self, if_true, if_false, *])
theorem f12 (b : Base) (hb : b.Ok) (f : List Item) (H : Heap) : cal (evC cprog) false 12 [eBase b, eItems f] H = some (bEr (validB b && forestOk b.types f) (if validB b = true then 0 else 100), H) := by
  rw [cal_of at12]
  have h1 := f34 b hb
  simp only [eBase] at h1
  cases hv : validB b with
  | false =>
    simp only [c12, eBase, cells_eItems, isTup_eItems, h1, hv, bEr, evX, Int.reduceEq, Int.reduceLT, Int.reduceLE, Nat.reduceMul, Nat.reduceMod, evW, fn_eq, evR, Nat.reduceAdd, Nat.reduceLT, Nat.reduceLeDiff, reduceIte, Nat.reduceEqDiff, reduceCtorEq, argEnv, eq_self, if_true, if_false]
    repeat' ((first | rw [guardK_cases] | rw [condK_bool] | rw [guardD_cases]); split <;> simp only [c12, eBase, cells_eItems, isTup_eItems, h1, hv, bEr, evX, Int.reduceEq, Int.reduceLT, Int.reduceLE, Nat.reduceMul, Nat.reduceMod, evW, evR, Nat.reduceAdd, Nat.reduceLT, Nat.reduceLeDiff, reduceIte, Nat.reduceEqDiff, reduceCtorEq, argEnv, eq_self, if_true, if_false, *])
  | true =>
    have h2 := f35 b (valid_tys hv) f
    simp only [eBase] at h2
    simp only [c12, eBase, cells_eItems, isTup_eItems, h1, hv, h2, bEr, evX, Int.reduceEq, Int.reduceLT, Int.reduceLE, Nat.reduceMul, Nat.reduceMod, evW, fn_eq, evR, Nat.reduceAdd, Nat.reduceLT, Nat.reduceLeDiff, reduceIte, Nat.reduceEqDiff, reduceCtorEq, argEnv, eq_self, if_true, if_false]
    repeat' ((first | rw [guardK_cases] | rw [condK_bool] | rw [guardD_cases]); split <;> simp only [c12, eBase, cells_eItems, isTup_eItems, h1, hv, h2, bEr, evX, Int.reduceEq, Int.reduceLT, Int.reduceLE, Nat.reduceMul, Nat.reduceMod, evW, evR, Nat.reduceAdd, Nat.reduceLT, Nat.reduceLeDiff, reduceIte, Nat.reduceEqDiff, reduceCtorEq, argEnv, eq_self, if_true, if_false, *])
end Go.Proofs.Ytcbmakanokmdjaa.Code
