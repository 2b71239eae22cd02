/- Texts of ours, joined into one file; each begins with its own remark. -/
import Derived.Test.YtcbmakanokmdjaaU1
import Derived.Test.YtcbmakanokmdjaaCodeB
import Derived.Test.YtcbmakanokmdjaaEvX
import Derived.Test.YtcbmakanokmdjaaEvR
import Derived.Test.YtcbmakanokmdjaaEvZ
import Derived.Test.YtcbmakanokmdjaaInsP
/- plain: which lists are forests, as the document asks. -/
set_option linter.unusedSimpArgs false
set_option linter.unusedVariables false
namespace Go.Proofs.Ytcbmakanokmdjaa.Code
open Go.Proofs.Ytcbmakanokmdjaa.Ev

theorem k35 (b : Base) (f : List Item) (hl : f.length ≤ 1000) (H : Heap) (b1 : Nat) (hs1 : Sits H b1 (bBase b)) (st : St) (G : Heap) (hE : keepEnv st.1 [1, 2, 5] = [(1, eItems f), (2, .ptr b1 0 4 0 0), (5, .int .i64 0)]) (hH : st.2 = H ++ ([] ++ G)) (z : Option (CX × St)) (hz : itLim (evCode (evC cprog) itLim c35_l0) st = z) :
    (f.all (fits b.types) = true ∧ Lv H [] (fun c T => c = .exit 0 ∧ keepEnv T [1, 2] = [(1, eItems f), (2, .ptr b1 0 4 0 0)]) z) ∨ (f.all (fits b.types) = false ∧ Lv H [] (fun c T => c = .ret ∧ get T 4 = some (.bool false)) z) := by
  have hlen := (sItems [] f).len
  have hlen' := (sTys [] b.types).len
  simp only [List.length_map] at hlen hlen'
  have hs := hs1
  simp only [bBase, Sits] at hs
  exact all_rule f (fits b.types) [1, 2, 5] (fun i => [(1, eItems f), (2, .ptr b1 0 4 0 0), (5, .int .i64 (i : Int))]) H [] (evCode (evC cprog) itLim c35_l0) _ _
    (fun i x hx E G hE => by
      have hlt : i < f.length := (List.getElem?_eq_some_iff.1 hx).1
      have hi : (i : Int) < (f.length : Int) := by omega
      have ha := aItem hx
      have hw := wrapS hlt (by omega)
      by_cases h1 : x.type < 0
      · simp only [c35_l0, hE, hi, hs, ha, hlen, h1, rItem, evX, Int.reduceEq, Int.reduceLT, Int.reduceLE, Nat.reduceMul, Nat.reduceMod, evW, fn_eq, evR, Nat.reduceAdd, Nat.reduceLT, Nat.reduceLeDiff, reduceIte, Nat.reduceEqDiff, reduceCtorEq, argEnv, eq_self, if_true, if_false]
        repeat' ((first | rw [guardK_cases] | rw [condK_bool] | rw [guardD_cases]); split <;> simp only [c35_l0, hE, hi, hs, ha, hlen, h1, rItem, evX, Int.reduceEq, Int.reduceLT, Int.reduceLE, Nat.reduceMul, Nat.reduceMod, evW, evR, Nat.reduceAdd, Nat.reduceLT, Nat.reduceLeDiff, reduceIte, Nat.reduceEqDiff, reduceCtorEq, argEnv, eq_self, if_true, if_false, *])
        exact Sc.ret (fits_none (by omega)) ⟨rfl, by rfl⟩
      by_cases h2 : (b.types.length : Int) ≤ x.type
      · simp only [c35_l0, hE, hi, hs, ha, hlen, hlen', h1, h2, rItem, evX, Int.reduceEq, Int.reduceLT, Int.reduceLE, Nat.reduceMul, Nat.reduceMod, evW, fn_eq, evR, Nat.reduceAdd, Nat.reduceLT, Nat.reduceLeDiff, reduceIte, Nat.reduceEqDiff, reduceCtorEq, argEnv, eq_self, if_true, if_false]
        repeat' ((first | rw [guardK_cases] | rw [condK_bool] | rw [guardD_cases]); split <;> simp only [c35_l0, hE, hi, hs, ha, hlen, hlen', h1, h2, rItem, evX, Int.reduceEq, Int.reduceLT, Int.reduceLE, Nat.reduceMul, Nat.reduceMod, evW, evR, Nat.reduceAdd, Nat.reduceLT, Nat.reduceLeDiff, reduceIte, Nat.reduceEqDiff, reduceCtorEq, argEnv, eq_self, if_true, if_false, *])
        exact Sc.ret (fits_none (by omega)) ⟨rfl, by rfl⟩
      obtain ⟨k, hk⟩ : ∃ k : Nat, x.type = (k : Int) := ⟨x.type.toNat, by omega⟩
      obtain ⟨t, ht⟩ : ∃ t, b.types[k]? = some t := ⟨_, List.getElem?_eq_getElem (by omega)⟩
      have hat := aTy ht
      rw [← hk] at hat
      by_cases h3 : (x.data.size : Int) < t.min
      · simp only [c35_l0, hE, hi, hs, ha, hat, hlen, hlen', h1, h2, h3, rItem, rTy, evX, Int.reduceEq, Int.reduceLT, Int.reduceLE, Nat.reduceMul, Nat.reduceMod, evW, fn_eq, evR, Nat.reduceAdd, Nat.reduceLT, Nat.reduceLeDiff, reduceIte, Nat.reduceEqDiff, reduceCtorEq, argEnv, eq_self, if_true, if_false]
        repeat' ((first | rw [guardK_cases] | rw [condK_bool] | rw [guardD_cases]); split <;> simp only [c35_l0, hE, hi, hs, ha, hat, hlen, hlen', h1, h2, h3, rItem, rTy, evX, Int.reduceEq, Int.reduceLT, Int.reduceLE, Nat.reduceMul, Nat.reduceMod, evW, evR, Nat.reduceAdd, Nat.reduceLT, Nat.reduceLeDiff, reduceIte, Nat.reduceEqDiff, reduceCtorEq, argEnv, eq_self, if_true, if_false, *])
        exact Sc.ret (by rw [fits_at hk ht, decide_eq_false (by omega)]; rfl) ⟨rfl, by rfl⟩
      by_cases h4 : t.size < (x.data.size : Int)
      · simp only [c35_l0, hE, hi, hs, ha, hat, hlen, hlen', h1, h2, h3, h4, rItem, rTy, evX, Int.reduceEq, Int.reduceLT, Int.reduceLE, Nat.reduceMul, Nat.reduceMod, evW, fn_eq, evR, Nat.reduceAdd, Nat.reduceLT, Nat.reduceLeDiff, reduceIte, Nat.reduceEqDiff, reduceCtorEq, argEnv, eq_self, if_true, if_false]
        repeat' ((first | rw [guardK_cases] | rw [condK_bool] | rw [guardD_cases]); split <;> simp only [c35_l0, hE, hi, hs, ha, hat, hlen, hlen', h1, h2, h3, h4, rItem, rTy, evX, Int.reduceEq, Int.reduceLT, Int.reduceLE, Nat.reduceMul, Nat.reduceMod, evW, evR, Nat.reduceAdd, Nat.reduceLT, Nat.reduceLeDiff, reduceIte, Nat.reduceEqDiff, reduceCtorEq, argEnv, eq_self, if_true, if_false, *])
        exact Sc.ret (by rw [fits_at hk ht, decide_eq_false (show ¬ (x.data.size : Int) ≤ t.size by omega), Bool.and_false]) ⟨rfl, by rfl⟩
      · simp only [c35_l0, hE, hi, hs, ha, hat, hlen, hlen', h1, h2, h3, h4, hw, rItem, rTy, evX, Int.reduceEq, Int.reduceLT, Int.reduceLE, Nat.reduceMul, Nat.reduceMod, evW, fn_eq, evR, Nat.reduceAdd, Nat.reduceLT, Nat.reduceLeDiff, reduceIte, Nat.reduceEqDiff, reduceCtorEq, argEnv, eq_self, if_true, if_false]
        repeat' ((first | rw [guardK_cases] | rw [condK_bool] | rw [guardD_cases]); split <;> simp only [c35_l0, hE, hi, hs, ha, hat, hlen, hlen', h1, h2, h3, h4, hw, rItem, rTy, evX, Int.reduceEq, Int.reduceLT, Int.reduceLE, Nat.reduceMul, Nat.reduceMod, evW, evR, Nat.reduceAdd, Nat.reduceLT, Nat.reduceLeDiff, reduceIte, Nat.reduceEqDiff, reduceCtorEq, argEnv, eq_self, if_true, if_false, *])
        exact Sc.next (by rw [fits_at hk ht, decide_eq_true (by omega), decide_eq_true (by omega)]; rfl) (by rfl))
    (fun E G hE => by
      simp only [c35_l0, hE, hlen, Int.lt_irrefl, evX, Int.reduceEq, Int.reduceLT, Int.reduceLE, Nat.reduceMul, Nat.reduceMod, evW, fn_eq, evR, Nat.reduceAdd, Nat.reduceLT, Nat.reduceLeDiff, reduceIte, Nat.reduceEqDiff, reduceCtorEq, argEnv, eq_self, if_true, if_false]
      repeat' ((first | rw [guardK_cases] | rw [condK_bool] | rw [guardD_cases]); split <;> simp only [c35_l0, hE, hlen, Int.lt_irrefl, evX, Int.reduceEq, Int.reduceLT, Int.reduceLE, Nat.reduceMul, Nat.reduceMod, evW, evR, Nat.reduceAdd, Nat.reduceLT, Nat.reduceLeDiff, reduceIte, Nat.reduceEqDiff, reduceCtorEq, argEnv, eq_self, if_true, if_false, *])
      exact .exit (K := []) ⟨rfl, by rfl⟩) st G hE hH z hz
theorem m35 (b : Base) (ht : tysOk b.types = true) (f : List Item) (hfit : AllFit b.types f) (hl : f.length ≤ 1000) (H : Heap) (b1 : Nat) (hs1 : Sits H b1 (bBase b)) (st : St) (G : Heap) (hE : keepEnv st.1 [1, 2, 6] = [(1, eItems f), (2, .ptr b1 0 4 0 0), (6, .int .i64 0)]) (hH : st.2 = H ++ ([] ++ G)) (z : Option (CX × St)) (hz : itLim (evCode (evC cprog) itLim c35_l2) st = z) :
    (tell (∀ (i : Nat) (x : Item), f[i]? = some x → okAt b.types f i x = true) = true ∧ Lv H [] (fun c T => c = .exit 2) z) ∨ (tell (∀ (i : Nat) (x : Item), f[i]? = some x → okAt b.types f i x = true) = false ∧ Lv H [] (fun c T => c = .ret ∧ get T 4 = some (.bool false)) z) := by
  have hlen := (sItems [] f).len
  simp only [List.length_map] at hlen
  have hs := hs1
  simp only [bBase, Sits] at hs
  have L := scan_pre f (okAt b.types f) [1, 2, 6] (fun i => [(1, eItems f), (2, .ptr b1 0 4 0 0), (6, .int .i64 (i : Int))]) H [] (evCode (evC cprog) itLim c35_l2) (fun c T => c = .exit 2) (fun _ _ c T => c = .ret ∧ get T 4 = some (.bool false))
    (fun i x hx hpre E G hE => by
      have hlt : i < f.length := (List.getElem?_eq_some_iff.1 hx).1
      have hi : (i : Int) < (f.length : Int) := by omega
      have ha := aItem hx
      have hw := wrapS hlt (by omega)
      have hft := hfit i x hx
      obtain ⟨k, t, hk, hkl, htk, hmin, hmax⟩ := fits_some hft
      have hat := aTy htk
      rw [← hk] at hat
      have hpt : tpar b.types x.type = t.parent := by rw [hk, tpar_at htk]
      have hty : tyOk t = true := by have := tell_true.1 ht k t htk; simp only [tyAt, Bool.and_eq_true] at this; exact this.1.1.1
      have htyo : tyOf b.types x.type = t := by rw [hk, tyOf_at htk]
      have h64 := f64 b f i x hx k t hk htk hl
      simp only [eBase] at h64
      have hb := par_lt b.types f i
      have hwm : IntKind.i64.wrap ((i : Int) - 1) = (i : Int) - 1 := wrap_i64 (by omega) (by omega)
      by_cases hA : par b.types f i < 0 ∧ x.type ≠ 0
      · obtain ⟨hA1, hA2⟩ := hA
        simp only [c35_l2, hE, hi, hs, ha, hlen, h64, hA1, hA2, rItem, evX, Int.reduceEq, Int.reduceLT, Int.reduceLE, Nat.reduceMul, Nat.reduceMod, evW, fn_eq, evR, Nat.reduceAdd, Nat.reduceLT, Nat.reduceLeDiff, reduceIte, Nat.reduceEqDiff, reduceCtorEq, argEnv, eq_self, if_true, if_false]
        repeat' ((first | rw [guardK_cases] | rw [condK_bool] | rw [guardD_cases]); split <;> simp only [c35_l2, hE, hi, hs, ha, hlen, h64, hA1, hA2, rItem, evX, Int.reduceEq, Int.reduceLT, Int.reduceLE, Nat.reduceMul, Nat.reduceMod, evW, evR, Nat.reduceAdd, Nat.reduceLT, Nat.reduceLeDiff, reduceIte, Nat.reduceEqDiff, reduceCtorEq, argEnv, eq_self, if_true, if_false, *])
        refine Sc.ret ?_ ⟨rfl, rfl⟩
        have h1 : ¬ t.parent < 0 := fun h => by have := (tys_root ht htk).1 h; omega
        have h2 : par b.types f i ∉ way b.types f i := fun h => by have := way_bound h; omega
        rw [okAt, hpt, decide_eq_false h1, tell_neg h2]; simp
      have hcont : ∃ u, (decide (par b.types f i < 0) = true ∧ decide (x.type = 0) = true ∧ u = ()) ∨ (decide (par b.types f i < 0) = false ∧ u = ()) := ⟨(), by
        by_cases h : par b.types f i < 0
        · exact .inl ⟨decide_eq_true h, decide_eq_true (Classical.byContradiction fun h' => hA ⟨h, h'⟩), rfl⟩
        · exact .inr ⟨decide_eq_false h, rfl⟩⟩
      obtain ⟨_, ⟨c1, c2, _⟩ | ⟨c1, _⟩⟩ := hcont
      · simp only [c35_l2, hE, hi, hs, ha, hlen, h64, c1, c2, hwm, rItem, evX, Int.reduceEq, Int.reduceLT, Int.reduceLE, Nat.reduceMul, Nat.reduceMod, evW, fn_eq, evR, Nat.reduceAdd, Nat.reduceLT, Nat.reduceLeDiff, reduceIte, Nat.reduceEqDiff, reduceCtorEq, argEnv, eq_self, if_true, if_false]
        repeat' ((first | rw [guardK_cases] | rw [condK_bool] | rw [guardD_cases]); split <;> simp only [c35_l2, hE, hi, hs, ha, hlen, h64, c1, c2, hwm, rItem, evX, Int.reduceEq, Int.reduceLT, Int.reduceLE, Nat.reduceMul, Nat.reduceMod, evW, evR, Nat.reduceAdd, Nat.reduceLT, Nat.reduceLeDiff, reduceIte, Nat.reduceEqDiff, reduceCtorEq, argEnv, eq_self, if_true, if_false, *])
        generalize hz : itLim _ _ = z
        obtain ⟨T, K, rfl, hT, k1, k2, hW⟩ := l35 b f hfit hl i hlt H b1 hs1 (par b.types f i) hb.1 _ G (by rfl) (by rfl) z hz
        rcases hW with ⟨g1, g2⟩ | ⟨g0, ⟨rfl, g1⟩ | ⟨g1, g2⟩⟩
        · simp only [hT, g1, evX, Int.reduceEq, Int.reduceLT, Int.reduceLE, Nat.reduceMul, Nat.reduceMod, evW, fn_eq, evR, Nat.reduceAdd, Nat.reduceLT, Nat.reduceLeDiff, reduceIte, Nat.reduceEqDiff, reduceCtorEq, argEnv, eq_self, if_true, if_false]
          repeat' ((first | rw [guardK_cases] | rw [condK_bool] | rw [guardD_cases]); split <;> simp only [hT, g1, evX, Int.reduceEq, Int.reduceLT, Int.reduceLE, Nat.reduceMul, Nat.reduceMod, evW, evR, Nat.reduceAdd, Nat.reduceLT, Nat.reduceLeDiff, reduceIte, Nat.reduceEqDiff, reduceCtorEq, argEnv, eq_self, if_true, if_false, *])
          refine Sc.ret ?_ ⟨rfl, rfl⟩
          have h1 := (par_typ (ts := b.types) (f := f) (i := i) (by omega)).2
          rw [typ_at hx] at h1
          rw [okAt, decide_eq_false (by omega), tell_neg g2]; simp
        · have hok : (decide (tpar b.types x.type < 0) || tell (par b.types f i ∈ way b.types f i)) = true := by
            rcases g0 with g0 | g0
            · have h0 : x.type = 0 := Classical.byContradiction fun h' => hA ⟨g0, h'⟩
              rw [hpt, decide_eq_true ((tys_root ht htk).2 (by omega))]; rfl
            · rw [tell_pos g0]; simp
          have hsib : sibOk b.types f i x = true := by simp only [sibOk, nOf, g1]
          simp only [hT, Int.lt_irrefl, hw, evX, Int.reduceEq, Int.reduceLT, Int.reduceLE, Nat.reduceMul, Nat.reduceMod, evW, fn_eq, evR, Nat.reduceAdd, Nat.reduceLT, Nat.reduceLeDiff, reduceIte, Nat.reduceEqDiff, reduceCtorEq, argEnv, eq_self, if_true, if_false]
          repeat' ((first | rw [guardK_cases] | rw [condK_bool] | rw [guardD_cases]); split <;> simp only [hT, Int.lt_irrefl, hw, evX, Int.reduceEq, Int.reduceLT, Int.reduceLE, Nat.reduceMul, Nat.reduceMod, evW, evR, Nat.reduceAdd, Nat.reduceLT, Nat.reduceLeDiff, reduceIte, Nat.reduceEqDiff, reduceCtorEq, argEnv, eq_self, if_true, if_false, *])
          exact Sc.next (by rw [okAt, hft, hok, hsib]; rfl) (by rfl)
        · have hok : (decide (tpar b.types x.type < 0) || tell (par b.types f i ∈ way b.types f i)) = true := by
            rcases g0 with g0 | g0
            · have h0 : x.type = 0 := Classical.byContradiction fun h' => hA ⟨g0, h'⟩
              rw [hpt, decide_eq_true ((tys_root ht htk).2 (by omega))]; rfl
            · rw [tell_pos g0]; simp
          have hKb := way_bound (List.mem_of_getElem? g2)
          obtain ⟨a, rfl⟩ : ∃ a : Nat, K = (a : Int) := ⟨K.toNat, by omega⟩
          obtain ⟨y, hy⟩ : ∃ y, f[a]? = some y := ⟨_, List.getElem?_eq_getElem (by omega)⟩
          have hya := aItem hy
          have n1 : ¬ (a : Int) < par b.types f i := by omega
          have n2 : ¬ (a : Int) = par b.types f i := by omega
          have hsib : sibOk b.types f i x = ordOk b.types f (a : Int) x := by simp only [sibOk, nOf, g2]
          simp only [ordOk, typ_at hy, dat_at hy, htyo] at hsib
          by_cases o1 : x.type < y.type
          · simp only [hT, n1, n2, ha, hya, o1, rItem, evX, Int.reduceEq, Int.reduceLT, Int.reduceLE, Nat.reduceMul, Nat.reduceMod, evW, fn_eq, evR, Nat.reduceAdd, Nat.reduceLT, Nat.reduceLeDiff, reduceIte, Nat.reduceEqDiff, reduceCtorEq, argEnv, eq_self, if_true, if_false]
            repeat' ((first | rw [guardK_cases] | rw [condK_bool] | rw [guardD_cases]); split <;> simp only [hT, n1, n2, ha, hya, o1, rItem, evX, Int.reduceEq, Int.reduceLT, Int.reduceLE, Nat.reduceMul, Nat.reduceMod, evW, evR, Nat.reduceAdd, Nat.reduceLT, Nat.reduceLeDiff, reduceIte, Nat.reduceEqDiff, reduceCtorEq, argEnv, eq_self, if_true, if_false, *])
            exact Sc.ret (bad_sib (by rw [hsib, decide_eq_false (show ¬ y.type < x.type by omega), decide_eq_false (show ¬ y.type = x.type by omega)]; rfl)) ⟨rfl, rfl⟩
          by_cases o2 : y.type = x.type
          · have hfy := fits_some (hfit a y hy)
            obtain ⟨k', t', q1, _, q2, q3, _⟩ := hfy
            obtain rfl : k' = k := by omega
            rw [htk] at q2; cases q2
            have o0 : ¬ x.type < x.type := by omega
            by_cases o4 : 0 ≤ t.key
            · have h1 := f45 b y k' t (by omega) htk hty q3
              have h2 := f45 b x k' t hk htk hty hmin
              simp only [eBase, rItem, o2] at h1 h2
              have hin : inOrd t y.data x.data = (bLt (keyOf t y.data) (keyOf t x.data) || (decide (keyOf t y.data = keyOf t x.data) && !t.unique)) := by
                rw [inOrd, decide_eq_false (by omega)]; rfl
              rw [hin, decide_eq_false (show ¬ y.type < x.type by omega), decide_eq_true o2] at hsib
              cases o5 : bLt (keyOf t y.data) (keyOf t x.data) with
              | true =>
                have o6 : ¬ keyOf t y.data = keyOf t x.data := fun e => by rw [e, bLt_irrefl] at o5; cases o5
                rw [o5] at hsib
                simp only [hT, hs, n1, n2, ha, hya, hat, o0, o2, o4, o5, o6, h1, h2, hw, rItem, rTy, evX, Int.reduceEq, Int.reduceLT, Int.reduceLE, Nat.reduceMul, Nat.reduceMod, evW, fn_eq, evR, Nat.reduceAdd, Nat.reduceLT, Nat.reduceLeDiff, reduceIte, Nat.reduceEqDiff, reduceCtorEq, argEnv, eq_self, if_true, if_false]
                repeat' ((first | rw [guardK_cases] | rw [condK_bool] | rw [guardD_cases]); split <;> simp only [hT, hs, n1, n2, ha, hya, hat, o0, o2, o4, o5, o6, h1, h2, hw, rItem, rTy, evX, Int.reduceEq, Int.reduceLT, Int.reduceLE, Nat.reduceMul, Nat.reduceMod, evW, evR, Nat.reduceAdd, Nat.reduceLT, Nat.reduceLeDiff, reduceIte, Nat.reduceEqDiff, reduceCtorEq, argEnv, eq_self, if_true, if_false, *])
                exact Sc.next (by rw [okAt, hft, hok, hsib]; rfl) (by rfl)
              | false =>
                by_cases o6 : keyOf t y.data = keyOf t x.data
                · cases o7 : t.unique with
                  | true =>
                    rw [o5, o7] at hsib
                    simp only [hT, hs, n1, n2, ha, hya, hat, o0, o2, o4, o5, o6, o7, bLt_irrefl, h1, h2, rItem, rTy, evX, Int.reduceEq, Int.reduceLT, Int.reduceLE, Nat.reduceMul, Nat.reduceMod, evW, fn_eq, evR, Nat.reduceAdd, Nat.reduceLT, Nat.reduceLeDiff, reduceIte, Nat.reduceEqDiff, reduceCtorEq, argEnv, eq_self, if_true, if_false]
                    repeat' ((first | rw [guardK_cases] | rw [condK_bool] | rw [guardD_cases]); split <;> simp only [hT, hs, n1, n2, ha, hya, hat, o0, o2, o4, o5, o6, o7, bLt_irrefl, h1, h2, rItem, rTy, evX, Int.reduceEq, Int.reduceLT, Int.reduceLE, Nat.reduceMul, Nat.reduceMod, evW, evR, Nat.reduceAdd, Nat.reduceLT, Nat.reduceLeDiff, reduceIte, Nat.reduceEqDiff, reduceCtorEq, argEnv, eq_self, if_true, if_false, *])
                    exact Sc.ret (bad_sib (by rw [hsib]; simp)) ⟨rfl, rfl⟩
                  | false =>
                    rw [o5, o7, decide_eq_true o6] at hsib
                    simp only [hT, hs, n1, n2, ha, hya, hat, o0, o2, o4, o5, o6, o7, bLt_irrefl, h1, h2, hw, rItem, rTy, evX, Int.reduceEq, Int.reduceLT, Int.reduceLE, Nat.reduceMul, Nat.reduceMod, evW, fn_eq, evR, Nat.reduceAdd, Nat.reduceLT, Nat.reduceLeDiff, reduceIte, Nat.reduceEqDiff, reduceCtorEq, argEnv, eq_self, if_true, if_false]
                    repeat' ((first | rw [guardK_cases] | rw [condK_bool] | rw [guardD_cases]); split <;> simp only [hT, hs, n1, n2, ha, hya, hat, o0, o2, o4, o5, o6, o7, bLt_irrefl, h1, h2, hw, rItem, rTy, evX, Int.reduceEq, Int.reduceLT, Int.reduceLE, Nat.reduceMul, Nat.reduceMod, evW, evR, Nat.reduceAdd, Nat.reduceLT, Nat.reduceLeDiff, reduceIte, Nat.reduceEqDiff, reduceCtorEq, argEnv, eq_self, if_true, if_false, *])
                    exact Sc.next (by rw [okAt, hft, hok, hsib]; rfl) (by rfl)
                · rw [o5, decide_eq_false o6] at hsib
                  simp only [hT, hs, n1, n2, ha, hya, hat, o0, o2, o4, o5, o6, h1, h2, rItem, rTy, evX, Int.reduceEq, Int.reduceLT, Int.reduceLE, Nat.reduceMul, Nat.reduceMod, evW, fn_eq, evR, Nat.reduceAdd, Nat.reduceLT, Nat.reduceLeDiff, reduceIte, Nat.reduceEqDiff, reduceCtorEq, argEnv, eq_self, if_true, if_false]
                  repeat' ((first | rw [guardK_cases] | rw [condK_bool] | rw [guardD_cases]); split <;> simp only [hT, hs, n1, n2, ha, hya, hat, o0, o2, o4, o5, o6, h1, h2, rItem, rTy, evX, Int.reduceEq, Int.reduceLT, Int.reduceLE, Nat.reduceMul, Nat.reduceMod, evW, evR, Nat.reduceAdd, Nat.reduceLT, Nat.reduceLeDiff, reduceIte, Nat.reduceEqDiff, reduceCtorEq, argEnv, eq_self, if_true, if_false, *])
                  exact Sc.ret (bad_sib (by rw [hsib]; simp)) ⟨rfl, rfl⟩
            · have hin : inOrd t y.data x.data = true := by rw [inOrd, decide_eq_true (by omega)]; rfl
              rw [hin, decide_eq_true o2] at hsib
              simp only [hT, hs, n1, n2, ha, hya, hat, o0, o2, o4, hw, rItem, rTy, evX, Int.reduceEq, Int.reduceLT, Int.reduceLE, Nat.reduceMul, Nat.reduceMod, evW, fn_eq, evR, Nat.reduceAdd, Nat.reduceLT, Nat.reduceLeDiff, reduceIte, Nat.reduceEqDiff, reduceCtorEq, argEnv, eq_self, if_true, if_false]
              repeat' ((first | rw [guardK_cases] | rw [condK_bool] | rw [guardD_cases]); split <;> simp only [hT, hs, n1, n2, ha, hya, hat, o0, o2, o4, hw, rItem, rTy, evX, Int.reduceEq, Int.reduceLT, Int.reduceLE, Nat.reduceMul, Nat.reduceMod, evW, evR, Nat.reduceAdd, Nat.reduceLT, Nat.reduceLeDiff, reduceIte, Nat.reduceEqDiff, reduceCtorEq, argEnv, eq_self, if_true, if_false, *])
              exact Sc.next (by rw [okAt, hft, hok, hsib]; simp) (by rfl)
          · simp only [hT, hs, n1, n2, ha, hya, o1, o2, hw, rItem, rTy, evX, Int.reduceEq, Int.reduceLT, Int.reduceLE, Nat.reduceMul, Nat.reduceMod, evW, fn_eq, evR, Nat.reduceAdd, Nat.reduceLT, Nat.reduceLeDiff, reduceIte, Nat.reduceEqDiff, reduceCtorEq, argEnv, eq_self, if_true, if_false]
            repeat' ((first | rw [guardK_cases] | rw [condK_bool] | rw [guardD_cases]); split <;> simp only [hT, hs, n1, n2, ha, hya, o1, o2, hw, rItem, rTy, evX, Int.reduceEq, Int.reduceLT, Int.reduceLE, Nat.reduceMul, Nat.reduceMod, evW, evR, Nat.reduceAdd, Nat.reduceLT, Nat.reduceLeDiff, reduceIte, Nat.reduceEqDiff, reduceCtorEq, argEnv, eq_self, if_true, if_false, *])
            exact Sc.next (by rw [okAt, hft, hok, hsib, decide_eq_true (show y.type < x.type by omega)]; rfl) (by rfl)
      · simp only [c35_l2, hE, hi, hs, ha, hlen, h64, c1, hwm, rItem, evX, Int.reduceEq, Int.reduceLT, Int.reduceLE, Nat.reduceMul, Nat.reduceMod, evW, fn_eq, evR, Nat.reduceAdd, Nat.reduceLT, Nat.reduceLeDiff, reduceIte, Nat.reduceEqDiff, reduceCtorEq, argEnv, eq_self, if_true, if_false]
        repeat' ((first | rw [guardK_cases] | rw [condK_bool] | rw [guardD_cases]); split <;> simp only [c35_l2, hE, hi, hs, ha, hlen, h64, c1, hwm, rItem, evX, Int.reduceEq, Int.reduceLT, Int.reduceLE, Nat.reduceMul, Nat.reduceMod, evW, evR, Nat.reduceAdd, Nat.reduceLT, Nat.reduceLeDiff, reduceIte, Nat.reduceEqDiff, reduceCtorEq, argEnv, eq_self, if_true, if_false, *])
        generalize hz : itLim _ _ = z
        obtain ⟨T, K, rfl, hT, k1, k2, hW⟩ := l35 b f hfit hl i hlt H b1 hs1 (par b.types f i) hb.1 _ G (by rfl) (by rfl) z hz
        rcases hW with ⟨g1, g2⟩ | ⟨g0, ⟨rfl, g1⟩ | ⟨g1, g2⟩⟩
        · simp only [hT, g1, evX, Int.reduceEq, Int.reduceLT, Int.reduceLE, Nat.reduceMul, Nat.reduceMod, evW, fn_eq, evR, Nat.reduceAdd, Nat.reduceLT, Nat.reduceLeDiff, reduceIte, Nat.reduceEqDiff, reduceCtorEq, argEnv, eq_self, if_true, if_false]
          repeat' ((first | rw [guardK_cases] | rw [condK_bool] | rw [guardD_cases]); split <;> simp only [hT, g1, evX, Int.reduceEq, Int.reduceLT, Int.reduceLE, Nat.reduceMul, Nat.reduceMod, evW, evR, Nat.reduceAdd, Nat.reduceLT, Nat.reduceLeDiff, reduceIte, Nat.reduceEqDiff, reduceCtorEq, argEnv, eq_self, if_true, if_false, *])
          refine Sc.ret ?_ ⟨rfl, rfl⟩
          have h1 := (par_typ (ts := b.types) (f := f) (i := i) (by omega)).2
          rw [typ_at hx] at h1
          rw [okAt, decide_eq_false (by omega), tell_neg g2]; simp
        · have hok : (decide (tpar b.types x.type < 0) || tell (par b.types f i ∈ way b.types f i)) = true := by
            rcases g0 with g0 | g0
            · have h0 : x.type = 0 := Classical.byContradiction fun h' => hA ⟨g0, h'⟩
              rw [hpt, decide_eq_true ((tys_root ht htk).2 (by omega))]; rfl
            · rw [tell_pos g0]; simp
          have hsib : sibOk b.types f i x = true := by simp only [sibOk, nOf, g1]
          simp only [hT, Int.lt_irrefl, hw, evX, Int.reduceEq, Int.reduceLT, Int.reduceLE, Nat.reduceMul, Nat.reduceMod, evW, fn_eq, evR, Nat.reduceAdd, Nat.reduceLT, Nat.reduceLeDiff, reduceIte, Nat.reduceEqDiff, reduceCtorEq, argEnv, eq_self, if_true, if_false]
          repeat' ((first | rw [guardK_cases] | rw [condK_bool] | rw [guardD_cases]); split <;> simp only [hT, Int.lt_irrefl, hw, evX, Int.reduceEq, Int.reduceLT, Int.reduceLE, Nat.reduceMul, Nat.reduceMod, evW, evR, Nat.reduceAdd, Nat.reduceLT, Nat.reduceLeDiff, reduceIte, Nat.reduceEqDiff, reduceCtorEq, argEnv, eq_self, if_true, if_false, *])
          exact Sc.next (by rw [okAt, hft, hok, hsib]; rfl) (by rfl)
        · have hok : (decide (tpar b.types x.type < 0) || tell (par b.types f i ∈ way b.types f i)) = true := by
            rcases g0 with g0 | g0
            · have h0 : x.type = 0 := Classical.byContradiction fun h' => hA ⟨g0, h'⟩
              rw [hpt, decide_eq_true ((tys_root ht htk).2 (by omega))]; rfl
            · rw [tell_pos g0]; simp
          have hKb := way_bound (List.mem_of_getElem? g2)
          obtain ⟨a, rfl⟩ : ∃ a : Nat, K = (a : Int) := ⟨K.toNat, by omega⟩
          obtain ⟨y, hy⟩ : ∃ y, f[a]? = some y := ⟨_, List.getElem?_eq_getElem (by omega)⟩
          have hya := aItem hy
          have n1 : ¬ (a : Int) < par b.types f i := by omega
          have n2 : ¬ (a : Int) = par b.types f i := by omega
          have hsib : sibOk b.types f i x = ordOk b.types f (a : Int) x := by simp only [sibOk, nOf, g2]
          simp only [ordOk, typ_at hy, dat_at hy, htyo] at hsib
          by_cases o1 : x.type < y.type
          · simp only [hT, n1, n2, ha, hya, o1, rItem, evX, Int.reduceEq, Int.reduceLT, Int.reduceLE, Nat.reduceMul, Nat.reduceMod, evW, fn_eq, evR, Nat.reduceAdd, Nat.reduceLT, Nat.reduceLeDiff, reduceIte, Nat.reduceEqDiff, reduceCtorEq, argEnv, eq_self, if_true, if_false]
            repeat' ((first | rw [guardK_cases] | rw [condK_bool] | rw [guardD_cases]); split <;> simp only [hT, n1, n2, ha, hya, o1, rItem, evX, Int.reduceEq, Int.reduceLT, Int.reduceLE, Nat.reduceMul, Nat.reduceMod, evW, evR, Nat.reduceAdd, Nat.reduceLT, Nat.reduceLeDiff, reduceIte, Nat.reduceEqDiff, reduceCtorEq, argEnv, eq_self, if_true, if_false, *])
            exact Sc.ret (bad_sib (by rw [hsib, decide_eq_false (show ¬ y.type < x.type by omega), decide_eq_false (show ¬ y.type = x.type by omega)]; rfl)) ⟨rfl, rfl⟩
          by_cases o2 : y.type = x.type
          · have hfy := fits_some (hfit a y hy)
            obtain ⟨k', t', q1, _, q2, q3, _⟩ := hfy
            obtain rfl : k' = k := by omega
            rw [htk] at q2; cases q2
            have o0 : ¬ x.type < x.type := by omega
            by_cases o4 : 0 ≤ t.key
            · have h1 := f45 b y k' t (by omega) htk hty q3
              have h2 := f45 b x k' t hk htk hty hmin
              simp only [eBase, rItem, o2] at h1 h2
              have hin : inOrd t y.data x.data = (bLt (keyOf t y.data) (keyOf t x.data) || (decide (keyOf t y.data = keyOf t x.data) && !t.unique)) := by
                rw [inOrd, decide_eq_false (by omega)]; rfl
              rw [hin, decide_eq_false (show ¬ y.type < x.type by omega), decide_eq_true o2] at hsib
              cases o5 : bLt (keyOf t y.data) (keyOf t x.data) with
              | true =>
                have o6 : ¬ keyOf t y.data = keyOf t x.data := fun e => by rw [e, bLt_irrefl] at o5; cases o5
                rw [o5] at hsib
                simp only [hT, hs, n1, n2, ha, hya, hat, o0, o2, o4, o5, o6, h1, h2, hw, rItem, rTy, evX, Int.reduceEq, Int.reduceLT, Int.reduceLE, Nat.reduceMul, Nat.reduceMod, evW, fn_eq, evR, Nat.reduceAdd, Nat.reduceLT, Nat.reduceLeDiff, reduceIte, Nat.reduceEqDiff, reduceCtorEq, argEnv, eq_self, if_true, if_false]
                repeat' ((first | rw [guardK_cases] | rw [condK_bool] | rw [guardD_cases]); split <;> simp only [hT, hs, n1, n2, ha, hya, hat, o0, o2, o4, o5, o6, h1, h2, hw, rItem, rTy, evX, Int.reduceEq, Int.reduceLT, Int.reduceLE, Nat.reduceMul, Nat.reduceMod, evW, evR, Nat.reduceAdd, Nat.reduceLT, Nat.reduceLeDiff, reduceIte, Nat.reduceEqDiff, reduceCtorEq, argEnv, eq_self, if_true, if_false, *])
                exact Sc.next (by rw [okAt, hft, hok, hsib]; rfl) (by rfl)
              | false =>
                by_cases o6 : keyOf t y.data = keyOf t x.data
                · cases o7 : t.unique with
                  | true =>
                    rw [o5, o7] at hsib
                    simp only [hT, hs, n1, n2, ha, hya, hat, o0, o2, o4, o5, o6, o7, bLt_irrefl, h1, h2, rItem, rTy, evX, Int.reduceEq, Int.reduceLT, Int.reduceLE, Nat.reduceMul, Nat.reduceMod, evW, fn_eq, evR, Nat.reduceAdd, Nat.reduceLT, Nat.reduceLeDiff, reduceIte, Nat.reduceEqDiff, reduceCtorEq, argEnv, eq_self, if_true, if_false]
                    repeat' ((first | rw [guardK_cases] | rw [condK_bool] | rw [guardD_cases]); split <;> simp only [hT, hs, n1, n2, ha, hya, hat, o0, o2, o4, o5, o6, o7, bLt_irrefl, h1, h2, rItem, rTy, evX, Int.reduceEq, Int.reduceLT, Int.reduceLE, Nat.reduceMul, Nat.reduceMod, evW, evR, Nat.reduceAdd, Nat.reduceLT, Nat.reduceLeDiff, reduceIte, Nat.reduceEqDiff, reduceCtorEq, argEnv, eq_self, if_true, if_false, *])
                    exact Sc.ret (bad_sib (by rw [hsib]; simp)) ⟨rfl, rfl⟩
                  | false =>
                    rw [o5, o7, decide_eq_true o6] at hsib
                    simp only [hT, hs, n1, n2, ha, hya, hat, o0, o2, o4, o5, o6, o7, bLt_irrefl, h1, h2, hw, rItem, rTy, evX, Int.reduceEq, Int.reduceLT, Int.reduceLE, Nat.reduceMul, Nat.reduceMod, evW, fn_eq, evR, Nat.reduceAdd, Nat.reduceLT, Nat.reduceLeDiff, reduceIte, Nat.reduceEqDiff, reduceCtorEq, argEnv, eq_self, if_true, if_false]
                    repeat' ((first | rw [guardK_cases] | rw [condK_bool] | rw [guardD_cases]); split <;> simp only [hT, hs, n1, n2, ha, hya, hat, o0, o2, o4, o5, o6, o7, bLt_irrefl, h1, h2, hw, rItem, rTy, evX, Int.reduceEq, Int.reduceLT, Int.reduceLE, Nat.reduceMul, Nat.reduceMod, evW, evR, Nat.reduceAdd, Nat.reduceLT, Nat.reduceLeDiff, reduceIte, Nat.reduceEqDiff, reduceCtorEq, argEnv, eq_self, if_true, if_false, *])
                    exact Sc.next (by rw [okAt, hft, hok, hsib]; rfl) (by rfl)
                · rw [o5, decide_eq_false o6] at hsib
                  simp only [hT, hs, n1, n2, ha, hya, hat, o0, o2, o4, o5, o6, h1, h2, rItem, rTy, evX, Int.reduceEq, Int.reduceLT, Int.reduceLE, Nat.reduceMul, Nat.reduceMod, evW, fn_eq, evR, Nat.reduceAdd, Nat.reduceLT, Nat.reduceLeDiff, reduceIte, Nat.reduceEqDiff, reduceCtorEq, argEnv, eq_self, if_true, if_false]
                  repeat' ((first | rw [guardK_cases] | rw [condK_bool] | rw [guardD_cases]); split <;> simp only [hT, hs, n1, n2, ha, hya, hat, o0, o2, o4, o5, o6, h1, h2, rItem, rTy, evX, Int.reduceEq, Int.reduceLT, Int.reduceLE, Nat.reduceMul, Nat.reduceMod, evW, evR, Nat.reduceAdd, Nat.reduceLT, Nat.reduceLeDiff, reduceIte, Nat.reduceEqDiff, reduceCtorEq, argEnv, eq_self, if_true, if_false, *])
                  exact Sc.ret (bad_sib (by rw [hsib]; simp)) ⟨rfl, rfl⟩
            · have hin : inOrd t y.data x.data = true := by rw [inOrd, decide_eq_true (by omega)]; rfl
              rw [hin, decide_eq_true o2] at hsib
              simp only [hT, hs, n1, n2, ha, hya, hat, o0, o2, o4, hw, rItem, rTy, evX, Int.reduceEq, Int.reduceLT, Int.reduceLE, Nat.reduceMul, Nat.reduceMod, evW, fn_eq, evR, Nat.reduceAdd, Nat.reduceLT, Nat.reduceLeDiff, reduceIte, Nat.reduceEqDiff, reduceCtorEq, argEnv, eq_self, if_true, if_false]
              repeat' ((first | rw [guardK_cases] | rw [condK_bool] | rw [guardD_cases]); split <;> simp only [hT, hs, n1, n2, ha, hya, hat, o0, o2, o4, hw, rItem, rTy, evX, Int.reduceEq, Int.reduceLT, Int.reduceLE, Nat.reduceMul, Nat.reduceMod, evW, evR, Nat.reduceAdd, Nat.reduceLT, Nat.reduceLeDiff, reduceIte, Nat.reduceEqDiff, reduceCtorEq, argEnv, eq_self, if_true, if_false, *])
              exact Sc.next (by rw [okAt, hft, hok, hsib]; simp) (by rfl)
          · simp only [hT, hs, n1, n2, ha, hya, o1, o2, hw, rItem, rTy, evX, Int.reduceEq, Int.reduceLT, Int.reduceLE, Nat.reduceMul, Nat.reduceMod, evW, fn_eq, evR, Nat.reduceAdd, Nat.reduceLT, Nat.reduceLeDiff, reduceIte, Nat.reduceEqDiff, reduceCtorEq, argEnv, eq_self, if_true, if_false]
            repeat' ((first | rw [guardK_cases] | rw [condK_bool] | rw [guardD_cases]); split <;> simp only [hT, hs, n1, n2, ha, hya, o1, o2, hw, rItem, rTy, evX, Int.reduceEq, Int.reduceLT, Int.reduceLE, Nat.reduceMul, Nat.reduceMod, evW, evR, Nat.reduceAdd, Nat.reduceLT, Nat.reduceLeDiff, reduceIte, Nat.reduceEqDiff, reduceCtorEq, argEnv, eq_self, if_true, if_false, *])
            exact Sc.next (by rw [okAt, hft, hok, hsib, decide_eq_true (show y.type < x.type by omega)]; rfl) (by rfl))
    (fun _ E G hE => by
      simp only [c35_l2, hE, hlen, Int.lt_irrefl, evX, Int.reduceEq, Int.reduceLT, Int.reduceLE, Nat.reduceMul, Nat.reduceMod, evW, fn_eq, evR, Nat.reduceAdd, Nat.reduceLT, Nat.reduceLeDiff, reduceIte, Nat.reduceEqDiff, reduceCtorEq, argEnv, eq_self, if_true, if_false]
      repeat' ((first | rw [guardK_cases] | rw [condK_bool] | rw [guardD_cases]); split <;> simp only [c35_l2, hE, hlen, Int.lt_irrefl, evX, Int.reduceEq, Int.reduceLT, Int.reduceLE, Nat.reduceMul, Nat.reduceMod, evW, evR, Nat.reduceAdd, Nat.reduceLT, Nat.reduceLeDiff, reduceIte, Nat.reduceEqDiff, reduceCtorEq, argEnv, eq_self, if_true, if_false, *])
      exact .exit (K := []) rfl) st G hE hH z hz
  rcases L with ⟨h, L⟩ | ⟨i, y, hx, h, _, L⟩
  · exact .inl ⟨tell_pos h, L⟩
  · exact .inr ⟨forest_bad hx h, L⟩
theorem f35 (b : Base) (ht : tysOk b.types = true) (f : List Item) (H : Heap) : cal (evC cprog) false 35 [eBase b, eItems f] H = some (.bool (forestOk b.types f), H) := by
  rw [cal_of at35]
  have hlen := (sItems [] f).len
  simp only [List.length_map] at hlen
  by_cases h : (200 : Int) < (f.length : Int)
  · have hv : forestOk b.types f = false := by unfold forestOk; rw [decide_eq_false (by omega)]; rfl
    rw [hv]
    simp only [c35, eBase, hlen, h, evX, Int.reduceEq, Int.reduceLT, Int.reduceLE, Nat.reduceMul, Nat.reduceMod, evW, fn_eq, evR, Nat.reduceAdd, Nat.reduceLT, Nat.reduceLeDiff, reduceIte, Nat.reduceEqDiff, reduceCtorEq, argEnv, eq_self, if_true, if_false]
    repeat' ((first | rw [guardK_cases] | rw [condK_bool] | rw [guardD_cases]); split <;> simp only [c35, eBase, hlen, h, evX, Int.reduceEq, Int.reduceLT, Int.reduceLE, Nat.reduceMul, Nat.reduceMod, evW, evR, Nat.reduceAdd, Nat.reduceLT, Nat.reduceLeDiff, reduceIte, Nat.reduceEqDiff, reduceCtorEq, argEnv, eq_self, if_true, if_false, *])
  · have hv : forestOk b.types f = tell (∀ (i : Nat) (x : Item), f[i]? = some x → okAt b.types f i x = true) := by unfold forestOk; rw [decide_eq_true (by omega)]; rfl
    rw [hv]
    simp only [c35, eBase, hlen, h, evX, Int.reduceEq, Int.reduceLT, Int.reduceLE, Nat.reduceMul, Nat.reduceMod, evW, fn_eq, evR, Nat.reduceAdd, Nat.reduceLT, Nat.reduceLeDiff, reduceIte, Nat.reduceEqDiff, reduceCtorEq, argEnv, eq_self, if_true, if_false]
    repeat' ((first | rw [guardK_cases] | rw [condK_bool] | rw [guardD_cases]); split <;> simp only [c35, eBase, hlen, h, evX, Int.reduceEq, Int.reduceLT, Int.reduceLE, Nat.reduceMul, Nat.reduceMod, evW, evR, Nat.reduceAdd, Nat.reduceLT, Nat.reduceLeDiff, reduceIte, Nat.reduceEqDiff, reduceCtorEq, argEnv, eq_self, if_true, if_false, *])
    generalize hz : itLim _ _ = z
    rcases k35 b f (by omega) (H ++ [bBase b]) H.length (.mk (by simp)) _ [] (by rfl) (by simp [bBase]) z hz with ⟨g, c, T, G', rfl, _, rfl, hT⟩ | ⟨g, c, T, G', rfl, _, rfl, hT⟩
    · have hfit : AllFit b.types f := fun i x hx => List.all_eq_true.1 g x (List.mem_of_getElem? hx)
      simp only [hT, evX, Int.reduceEq, Int.reduceLT, Int.reduceLE, Nat.reduceMul, Nat.reduceMod, evW, fn_eq, evR, Nat.reduceAdd, Nat.reduceLT, Nat.reduceLeDiff, reduceIte, Nat.reduceEqDiff, reduceCtorEq, argEnv, eq_self, if_true, if_false]
      repeat' ((first | rw [guardK_cases] | rw [condK_bool] | rw [guardD_cases]); split <;> simp only [hT, evX, Int.reduceEq, Int.reduceLT, Int.reduceLE, Nat.reduceMul, Nat.reduceMod, evW, evR, Nat.reduceAdd, Nat.reduceLT, Nat.reduceLeDiff, reduceIte, Nat.reduceEqDiff, reduceCtorEq, argEnv, eq_self, if_true, if_false, *])
      generalize hz : itLim _ _ = z
      rcases m35 b ht f hfit (by omega) (H ++ [bBase b]) H.length (.mk (by simp)) _ G' (by rfl) (by simp) z hz with ⟨g2, c, T, G', rfl, _, rfl⟩ | ⟨g2, c, T, G', rfl, _, rfl, hT⟩
      · rw [g2]
        simp only [evX, Int.reduceEq, Int.reduceLT, Int.reduceLE, Nat.reduceMul, Nat.reduceMod, evW, fn_eq, evR, Nat.reduceAdd, Nat.reduceLT, Nat.reduceLeDiff, reduceIte, Nat.reduceEqDiff, reduceCtorEq, argEnv, eq_self, if_true, if_false]
        repeat' ((first | rw [guardK_cases] | rw [condK_bool] | rw [guardD_cases]); split <;> simp only [evX, Int.reduceEq, Int.reduceLT, Int.reduceLE, Nat.reduceMul, Nat.reduceMod, evW, evR, Nat.reduceAdd, Nat.reduceLT, Nat.reduceLeDiff, reduceIte, Nat.reduceEqDiff, reduceCtorEq, argEnv, eq_self, if_true, if_false, *])
      · rw [g2]
        simp only [hT, evX, Int.reduceEq, Int.reduceLT, Int.reduceLE, Nat.reduceMul, Nat.reduceMod, evW, fn_eq, evR, Nat.reduceAdd, Nat.reduceLT, Nat.reduceLeDiff, reduceIte, Nat.reduceEqDiff, reduceCtorEq, argEnv, eq_self, if_true, if_false]
        repeat' ((first | rw [guardK_cases] | rw [condK_bool] | rw [guardD_cases]); split <;> simp only [hT, evX, Int.reduceEq, Int.reduceLT, Int.reduceLE, Nat.reduceMul, Nat.reduceMod, evW, evR, Nat.reduceAdd, Nat.reduceLT, Nat.reduceLeDiff, reduceIte, Nat.reduceEqDiff, reduceCtorEq, argEnv, eq_self, if_true, if_false, *])
    · have : tell (∀ (i : Nat) (x : Item), f[i]? = some x → okAt b.types f i x = true) = false := by
        obtain ⟨x, hx, h⟩ := List.all_eq_false.1 g
        obtain ⟨i, hi⟩ := List.getElem?_of_mem hx
        exact forest_bad hi (by simp [okAt, h])
      rw [this]
      simp only [hT, evX, Int.reduceEq, Int.reduceLT, Int.reduceLE, Nat.reduceMul, Nat.reduceMod, evW, fn_eq, evR, Nat.reduceAdd, Nat.reduceLT, Nat.reduceLeDiff, reduceIte, Nat.reduceEqDiff, reduceCtorEq, argEnv, eq_self, if_true, if_false]
      repeat' ((first | rw [guardK_cases] | rw [condK_bool] | rw [guardD_cases]); split <;> simp only [hT, evX, Int.reduceEq, Int.reduceLT, Int.reduceLE, Nat.reduceMul, Nat.reduceMod, evW, evR, Nat.reduceAdd, Nat.reduceLT, Nat.reduceLeDiff, reduceIte, Nat.reduceEqDiff, reduceCtorEq, argEnv, eq_self, if_true, if_false, *])
end Go.Proofs.Ytcbmakanokmdjaa.Code

/- plain: the same lists; Small. -/
set_option linter.unusedSimpArgs false
set_option linter.unusedVariables false
namespace Go.Proofs.Ytcbmakanokmdjaa.Code
open Go.Proofs.Ytcbmakanokmdjaa.Ev

def sameI (x y : Item) : Bool := decide (x.type = y.type) && decide (x.data = y.data)
theorem sameI_eq {x y : Item} : sameI x y = true ↔ x = y := by
  cases x; cases y; simp [sameI]
theorem eqsItem (n : Bool) (x y : Item) : eqsK n [0, 2] (some (.agg [.int .i64 x.type, .str x.data])) (some (.agg [.int .i64 y.type, .str y.data])) = some (.bool (if n = true then !(sameI x y) else sameI x y)) := by
  simp only [eqsK, cellsEq, cellEq, str_beq, if_true, sameI, Bool.and_true, Option.map_some]
noncomputable def same (f g : List Item) : Bool := tell (f = g)
theorem same_no {f g : List Item} {i : Nat} {x y : Item} (hx : f[i]? = some x) (hy : g[i]? = some y) (h : sameI x y = false) : same f g = false := tell_neg fun e => by
  subst e; rw [hx] at hy; cases hy
  rw [sameI_eq.2 rfl] at h; cases h
theorem same_yes {f g : List Item} (hl : f.length = g.length) (h : ∀ (i : Nat) (x : Item), f[i]? = some x → (match g[i]? with | some y => sameI x y | none => false) = true) : same f g = true := tell_pos <| by
  apply List.ext_getElem? 
  intro i
  cases hx : f[i]? with
  | none =>
    have := List.getElem?_eq_none_iff.1 hx
    rw [List.getElem?_eq_none (by omega)]
  | some x =>
    have h1 := h i x hx
    cases hy : g[i]? with
    | none => simp [hy] at h1
    | some y =>
      simp only [hy] at h1
      rw [sameI_eq.1 h1]
theorem same_len {f g : List Item} (hl : f.length ≠ g.length) : same f g = false := tell_neg fun e => hl (by rw [e])
def okS (g : List Item) (i : Nat) (x : Item) : Bool := match g[i]? with
  | some y => sameI x y
  | none => false
theorem f14 (f g : List Item) (hf : f.length < 9223372036854775807) (H : Heap) : cal (evC cprog) false 14 [eItems f, eItems g] H = some (.bool (same f g), H) := by
  rw [cal_of at14]
  have h1 := (sItems [] f).len
  have h2 := (sItems [] g).len
  simp only [List.length_map] at h1 h2
  by_cases hl : f.length = g.length
  · have hl' : ((f.length : Int) = (g.length : Int)) := by omega
    simp only [c14, h1, h2, hl', evX, Int.reduceEq, Int.reduceLT, Int.reduceLE, Nat.reduceMul, Nat.reduceMod, evW, fn_eq, evR, Nat.reduceAdd, Nat.reduceLT, Nat.reduceLeDiff, reduceIte, Nat.reduceEqDiff, reduceCtorEq, argEnv, eq_self, if_true, if_false]
    repeat' ((first | rw [guardK_cases] | rw [condK_bool] | rw [guardD_cases]); split <;> simp only [c14, h1, h2, hl', evX, Int.reduceEq, Int.reduceLT, Int.reduceLE, Nat.reduceMul, Nat.reduceMod, evW, evR, Nat.reduceAdd, Nat.reduceLT, Nat.reduceLeDiff, reduceIte, Nat.reduceEqDiff, reduceCtorEq, argEnv, eq_self, if_true, if_false, *])
    generalize hz : itLim _ _ = z
    have L := scan_rule f (okS g) [0, 1, 5] (fun i => [(0, eItems f), (1, eItems g), (5, .int .i64 (i : Int))]) H [] (evCode (evC cprog) itLim c14_l0) (fun c T => c = .exit 0) (fun _ _ c T => c = .ret ∧ get T 4 = some (.bool false))
      (fun i x hx E G hE => by
        have hlt : i < f.length := (List.getElem?_eq_some_iff.1 hx).1
        have hi : (i : Int) < (f.length : Int) := by omega
        obtain ⟨y, hy⟩ : ∃ y, g[i]? = some y := ⟨_, List.getElem?_eq_getElem (by omega)⟩
        have ha := aItem hx
        have ha' := aItem hy
        have hok : okS g i x = sameI x y := by simp only [okS, hy]
        rw [hok]
        cases hs : sameI x y with
        | true =>
          simp only [c14_l0, hE, hi, h1, ha, ha', eqsItem, hs, rItem, wrapS hlt hf, evX, Int.reduceEq, Int.reduceLT, Int.reduceLE, Nat.reduceMul, Nat.reduceMod, evW, fn_eq, evR, Nat.reduceAdd, Nat.reduceLT, Nat.reduceLeDiff, reduceIte, Nat.reduceEqDiff, reduceCtorEq, argEnv, eq_self, if_true, if_false]
          repeat' ((first | rw [guardK_cases] | rw [condK_bool] | rw [guardD_cases]); split <;> simp only [c14_l0, hE, hi, h1, ha, ha', eqsItem, hs, rItem, wrapS hlt hf, evX, Int.reduceEq, Int.reduceLT, Int.reduceLE, Nat.reduceMul, Nat.reduceMod, evW, evR, Nat.reduceAdd, Nat.reduceLT, Nat.reduceLeDiff, reduceIte, Nat.reduceEqDiff, reduceCtorEq, argEnv, eq_self, if_true, if_false, *])
          exact Sc.next rfl (by rfl)
        | false =>
          simp only [c14_l0, hE, hi, h1, ha, ha', eqsItem, hs, rItem, evX, Int.reduceEq, Int.reduceLT, Int.reduceLE, Nat.reduceMul, Nat.reduceMod, evW, fn_eq, evR, Nat.reduceAdd, Nat.reduceLT, Nat.reduceLeDiff, reduceIte, Nat.reduceEqDiff, reduceCtorEq, argEnv, eq_self, if_true, if_false]
          repeat' ((first | rw [guardK_cases] | rw [condK_bool] | rw [guardD_cases]); split <;> simp only [c14_l0, hE, hi, h1, ha, ha', eqsItem, hs, rItem, evX, Int.reduceEq, Int.reduceLT, Int.reduceLE, Nat.reduceMul, Nat.reduceMod, evW, evR, Nat.reduceAdd, Nat.reduceLT, Nat.reduceLeDiff, reduceIte, Nat.reduceEqDiff, reduceCtorEq, argEnv, eq_self, if_true, if_false, *])
          exact Sc.ret rfl ⟨rfl, rfl⟩)
      (fun E G hE => by
        simp only [c14_l0, hE, h1, Int.lt_irrefl, evX, Int.reduceEq, Int.reduceLT, Int.reduceLE, Nat.reduceMul, Nat.reduceMod, evW, fn_eq, evR, Nat.reduceAdd, Nat.reduceLT, Nat.reduceLeDiff, reduceIte, Nat.reduceEqDiff, reduceCtorEq, argEnv, eq_self, if_true, if_false]
        repeat' ((first | rw [guardK_cases] | rw [condK_bool] | rw [guardD_cases]); split <;> simp only [c14_l0, hE, h1, Int.lt_irrefl, evX, Int.reduceEq, Int.reduceLT, Int.reduceLE, Nat.reduceMul, Nat.reduceMod, evW, evR, Nat.reduceAdd, Nat.reduceLT, Nat.reduceLeDiff, reduceIte, Nat.reduceEqDiff, reduceCtorEq, argEnv, eq_self, if_true, if_false, *])
        exact .exit (K := []) rfl) _ [] (by rfl) (by simp) z hz
    rcases L with ⟨ha, c, T, G, rfl, _, rfl⟩ | ⟨i, r, hx, ha, _, c, T, G, rfl, _, rfl, hT⟩
    · rw [same_yes hl ha]
      simp only [evX, Int.reduceEq, Int.reduceLT, Int.reduceLE, Nat.reduceMul, Nat.reduceMod, evW, fn_eq, evR, Nat.reduceAdd, Nat.reduceLT, Nat.reduceLeDiff, reduceIte, Nat.reduceEqDiff, reduceCtorEq, argEnv, eq_self, if_true, if_false]
      repeat' ((first | rw [guardK_cases] | rw [condK_bool] | rw [guardD_cases]); split <;> simp only [evX, Int.reduceEq, Int.reduceLT, Int.reduceLE, Nat.reduceMul, Nat.reduceMod, evW, evR, Nat.reduceAdd, Nat.reduceLT, Nat.reduceLeDiff, reduceIte, Nat.reduceEqDiff, reduceCtorEq, argEnv, eq_self, if_true, if_false, *])
    · have hlt : i < f.length := (List.getElem?_eq_some_iff.1 hx).1
      obtain ⟨y, hy⟩ : ∃ y, g[i]? = some y := ⟨_, List.getElem?_eq_getElem (by omega)⟩
      rw [same_no hx hy (by simpa only [okS, hy] using ha)]
      simp only [hT, evX, Int.reduceEq, Int.reduceLT, Int.reduceLE, Nat.reduceMul, Nat.reduceMod, evW, fn_eq, evR, Nat.reduceAdd, Nat.reduceLT, Nat.reduceLeDiff, reduceIte, Nat.reduceEqDiff, reduceCtorEq, argEnv, eq_self, if_true, if_false]
      repeat' ((first | rw [guardK_cases] | rw [condK_bool] | rw [guardD_cases]); split <;> simp only [hT, evX, Int.reduceEq, Int.reduceLT, Int.reduceLE, Nat.reduceMul, Nat.reduceMod, evW, evR, Nat.reduceAdd, Nat.reduceLT, Nat.reduceLeDiff, reduceIte, Nat.reduceEqDiff, reduceCtorEq, argEnv, eq_self, if_true, if_false, *])
  · have hl' : ¬ ((f.length : Int) = (g.length : Int)) := by omega
    rw [same_len hl]
    simp only [c14, h1, h2, hl', evX, Int.reduceEq, Int.reduceLT, Int.reduceLE, Nat.reduceMul, Nat.reduceMod, evW, fn_eq, evR, Nat.reduceAdd, Nat.reduceLT, Nat.reduceLeDiff, reduceIte, Nat.reduceEqDiff, reduceCtorEq, argEnv, eq_self, if_true, if_false]
    repeat' ((first | rw [guardK_cases] | rw [condK_bool] | rw [guardD_cases]); split <;> simp only [c14, h1, h2, hl', evX, Int.reduceEq, Int.reduceLT, Int.reduceLE, Nat.reduceMul, Nat.reduceMod, evW, evR, Nat.reduceAdd, Nat.reduceLT, Nat.reduceLeDiff, reduceIte, Nat.reduceEqDiff, reduceCtorEq, argEnv, eq_self, if_true, if_false, *])
def small (b : Base) (f : List Item) : Bool :=
  b.types.all (fun t => decide ((t.fields.length : Int) ≤ 10)) && f.all (fun x => decide ((x.data.size : Int) ≤ 100)) && decide ((b.types.length : Int) ≤ 12) && decide ((b.indexes.length : Int) ≤ 6) && decide ((f.length : Int) ≤ 60)
theorem f9 (b : Base) (hb : b.Ok) (f : List Item) (hf : f.length < 9223372036854775807) (H : Heap) : cal (evC cprog) false 9 [eBase b, eItems f] H = some (.bool (small b f), H) := by
  rw [cal_of at9]
  have h1 := (sTys [] b.types).len
  have h2 := (sItems [] f).len
  have h3 := (sSes [] b.indexes).len
  simp only [List.length_map] at h1 h2 h3
  simp only [c9, eBase, evX, Int.reduceEq, Int.reduceLT, Int.reduceLE, Nat.reduceMul, Nat.reduceMod, evW, fn_eq, evR, Nat.reduceAdd, Nat.reduceLT, Nat.reduceLeDiff, reduceIte, Nat.reduceEqDiff, reduceCtorEq, argEnv, eq_self, if_true, if_false]
  repeat' ((first | rw [guardK_cases] | rw [condK_bool] | rw [guardD_cases]); split <;> simp only [c9, eBase, evX, Int.reduceEq, Int.reduceLT, Int.reduceLE, Nat.reduceMul, Nat.reduceMod, evW, evR, Nat.reduceAdd, Nat.reduceLT, Nat.reduceLeDiff, reduceIte, Nat.reduceEqDiff, reduceCtorEq, argEnv, eq_self, if_true, if_false, *])
  generalize hz : itLim _ _ = z
  have key : ∀ (H : Heap) (b1 : Nat), Sits H b1 (bBase b) → ∀ (st : St) (G : Heap), keepEnv st.1 [1, 2, 5] = [(1, eItems f), (2, .ptr b1 0 4 0 0), (5, .int .i64 0)] → st.2 = H ++ ([] ++ G) → ∀ z, itLim (evCode (evC cprog) itLim c9_l0) st = z →
      (b.types.all (fun t => decide ((t.fields.length : Int) ≤ 10)) = true ∧ Lv H [] (fun c T => c = .exit 0 ∧ keepEnv T [1, 2] = [(1, eItems f), (2, .ptr b1 0 4 0 0)]) z) ∨ (b.types.all (fun t => decide ((t.fields.length : Int) ≤ 10)) = false ∧ Lv H [] (fun c T => c = .ret ∧ get T 4 = some (.bool false)) z) := by
    intro H b1 hs st G hE hH z hz
    simp only [bBase, Sits] at hs
    exact all_rule b.types _ [1, 2, 5] (fun i => [(1, eItems f), (2, .ptr b1 0 4 0 0), (5, .int .i64 (i : Int))]) H [] (evCode (evC cprog) itLim c9_l0) _ _
      (fun i t hx E G hE => by
        have hlt : i < b.types.length := (List.getElem?_eq_some_iff.1 hx).1
        have hi : (i : Int) < (b.types.length : Int) := by omega
        have ha := aTy hx
        have h4 := (sFds [] t.fields).len
        simp only [List.length_map] at h4
        simp only [c9_l0, hE, hs, hi, h1, ha, h4, rTy, wrapS hlt hb.types, evX, Int.reduceEq, Int.reduceLT, Int.reduceLE, Nat.reduceMul, Nat.reduceMod, evW, fn_eq, evR, Nat.reduceAdd, Nat.reduceLT, Nat.reduceLeDiff, reduceIte, Nat.reduceEqDiff, reduceCtorEq, argEnv, eq_self, if_true, if_false]
        repeat' ((first | rw [guardK_cases] | rw [condK_bool] | rw [guardD_cases]); split <;> simp only [c9_l0, hE, hs, hi, h1, ha, h4, rTy, wrapS hlt hb.types, evX, Int.reduceEq, Int.reduceLT, Int.reduceLE, Nat.reduceMul, Nat.reduceMod, evW, evR, Nat.reduceAdd, Nat.reduceLT, Nat.reduceLeDiff, reduceIte, Nat.reduceEqDiff, reduceCtorEq, argEnv, eq_self, if_true, if_false, *])
        all_goals first | exact Sc.next (by first | (simp_all [Int.not_le]; done) | (simp_all [Int.not_le]; intros; omega)) (by rfl) | exact Sc.ret (by first | (simp_all [Int.not_le]; done) | (simp_all [Int.not_le]; intros; omega)) ⟨rfl, by first | rfl | exact ⟨rfl, rfl, rfl⟩⟩ | exact Sc.exit (by first | (simp_all [Int.not_le]; done) | (simp_all [Int.not_le]; intros; omega)) ⟨rfl, rfl⟩)
      (fun E G hE => by
        simp only [c9_l0, hE, hs, h1, Int.lt_irrefl, evX, Int.reduceEq, Int.reduceLT, Int.reduceLE, Nat.reduceMul, Nat.reduceMod, evW, fn_eq, evR, Nat.reduceAdd, Nat.reduceLT, Nat.reduceLeDiff, reduceIte, Nat.reduceEqDiff, reduceCtorEq, argEnv, eq_self, if_true, if_false]
        repeat' ((first | rw [guardK_cases] | rw [condK_bool] | rw [guardD_cases]); split <;> simp only [c9_l0, hE, hs, h1, Int.lt_irrefl, evX, Int.reduceEq, Int.reduceLT, Int.reduceLE, Nat.reduceMul, Nat.reduceMod, evW, evR, Nat.reduceAdd, Nat.reduceLT, Nat.reduceLeDiff, reduceIte, Nat.reduceEqDiff, reduceCtorEq, argEnv, eq_self, if_true, if_false, *])
        exact .exit (K := []) ⟨rfl, by rfl⟩) st G hE hH z hz
  have key2 : ∀ (H : Heap) (b1 : Nat), Sits H b1 (bBase b) → ∀ (st : St) (G : Heap), keepEnv st.1 [1, 2, 6] = [(1, eItems f), (2, .ptr b1 0 4 0 0), (6, .int .i64 0)] → st.2 = H ++ ([] ++ G) → ∀ z, itLim (evCode (evC cprog) itLim c9_l1) st = z →
      (f.all (fun x => decide ((x.data.size : Int) ≤ 100)) = true ∧ Lv H [] (fun c T => c = .exit 2 ∧ keepEnv T [1, 2] = [(1, eItems f), (2, .ptr b1 0 4 0 0)]) z) ∨ (f.all (fun x => decide ((x.data.size : Int) ≤ 100)) = false ∧ Lv H [] (fun c T => c = .ret ∧ get T 4 = some (.bool false)) z) := by
    intro H b1 hs st G hE hH z hz
    exact all_rule f _ [1, 2, 6] (fun i => [(1, eItems f), (2, .ptr b1 0 4 0 0), (6, .int .i64 (i : Int))]) H [] (evCode (evC cprog) itLim c9_l1) _ _
      (fun i t hx E G hE => by
        have hlt : i < f.length := (List.getElem?_eq_some_iff.1 hx).1
        have hi : (i : Int) < (f.length : Int) := by omega
        have ha := aItem hx
        simp only [c9_l1, hE, hi, h2, ha, rItem, wrapS hlt hf, evX, Int.reduceEq, Int.reduceLT, Int.reduceLE, Nat.reduceMul, Nat.reduceMod, evW, fn_eq, evR, Nat.reduceAdd, Nat.reduceLT, Nat.reduceLeDiff, reduceIte, Nat.reduceEqDiff, reduceCtorEq, argEnv, eq_self, if_true, if_false]
        repeat' ((first | rw [guardK_cases] | rw [condK_bool] | rw [guardD_cases]); split <;> simp only [c9_l1, hE, hi, h2, ha, rItem, wrapS hlt hf, evX, Int.reduceEq, Int.reduceLT, Int.reduceLE, Nat.reduceMul, Nat.reduceMod, evW, evR, Nat.reduceAdd, Nat.reduceLT, Nat.reduceLeDiff, reduceIte, Nat.reduceEqDiff, reduceCtorEq, argEnv, eq_self, if_true, if_false, *])
        all_goals first | exact Sc.next (by first | (simp_all [Int.not_le]; done) | (simp_all [Int.not_le]; intros; omega)) (by rfl) | exact Sc.ret (by first | (simp_all [Int.not_le]; done) | (simp_all [Int.not_le]; intros; omega)) ⟨rfl, by first | rfl | exact ⟨rfl, rfl, rfl⟩⟩ | exact Sc.exit (by first | (simp_all [Int.not_le]; done) | (simp_all [Int.not_le]; intros; omega)) ⟨rfl, rfl⟩)
      (fun E G hE => by
        simp only [c9_l1, hE, h2, Int.lt_irrefl, evX, Int.reduceEq, Int.reduceLT, Int.reduceLE, Nat.reduceMul, Nat.reduceMod, evW, fn_eq, evR, Nat.reduceAdd, Nat.reduceLT, Nat.reduceLeDiff, reduceIte, Nat.reduceEqDiff, reduceCtorEq, argEnv, eq_self, if_true, if_false]
        repeat' ((first | rw [guardK_cases] | rw [condK_bool] | rw [guardD_cases]); split <;> simp only [c9_l1, hE, h2, Int.lt_irrefl, evX, Int.reduceEq, Int.reduceLT, Int.reduceLE, Nat.reduceMul, Nat.reduceMod, evW, evR, Nat.reduceAdd, Nat.reduceLT, Nat.reduceLeDiff, reduceIte, Nat.reduceEqDiff, reduceCtorEq, argEnv, eq_self, if_true, if_false, *])
        exact .exit (K := []) ⟨rfl, by rfl⟩) st G hE hH z hz
  have hs : ∀ X, (H ++ ([bBase b] ++ X))[H.length]? = some (bBase b) := fun X => by simp
  simp only [bBase] at hs
  rcases key (H ++ [bBase b]) H.length (.mk (by simp)) _ [] (by rfl) (by simp [bBase]) z hz with ⟨g, c, T, G', rfl, _, rfl, hT⟩ | ⟨g, c, T, G', rfl, _, rfl, hT⟩
  · simp only [hT, evX, Int.reduceEq, Int.reduceLT, Int.reduceLE, Nat.reduceMul, Nat.reduceMod, evW, fn_eq, evR, Nat.reduceAdd, Nat.reduceLT, Nat.reduceLeDiff, reduceIte, Nat.reduceEqDiff, reduceCtorEq, argEnv, eq_self, if_true, if_false]
    repeat' ((first | rw [guardK_cases] | rw [condK_bool] | rw [guardD_cases]); split <;> simp only [hT, evX, Int.reduceEq, Int.reduceLT, Int.reduceLE, Nat.reduceMul, Nat.reduceMod, evW, evR, Nat.reduceAdd, Nat.reduceLT, Nat.reduceLeDiff, reduceIte, Nat.reduceEqDiff, reduceCtorEq, argEnv, eq_self, if_true, if_false, *])
    generalize hz : itLim _ _ = z
    rcases key2 (H ++ [bBase b]) H.length (.mk (by simp)) _ G' (by rfl) (by simp) z hz with ⟨g2, c, T, G', rfl, _, rfl, hT⟩ | ⟨g2, c, T, G', rfl, _, rfl, hT⟩
    · simp only [hT, hs, bBase, h1, h2, h3, evX, Int.reduceEq, Int.reduceLT, Int.reduceLE, Nat.reduceMul, Nat.reduceMod, evW, fn_eq, evR, Nat.reduceAdd, Nat.reduceLT, Nat.reduceLeDiff, reduceIte, Nat.reduceEqDiff, reduceCtorEq, argEnv, eq_self, if_true, if_false]
      repeat' ((first | rw [guardK_cases] | rw [condK_bool] | rw [guardD_cases]); split <;> simp only [hT, hs, bBase, h1, h2, h3, evX, Int.reduceEq, Int.reduceLT, Int.reduceLE, Nat.reduceMul, Nat.reduceMod, evW, evR, Nat.reduceAdd, Nat.reduceLT, Nat.reduceLeDiff, reduceIte, Nat.reduceEqDiff, reduceCtorEq, argEnv, eq_self, if_true, if_false, *])
      all_goals (simp_all [small]; try omega)
    · simp only [hT, evX, Int.reduceEq, Int.reduceLT, Int.reduceLE, Nat.reduceMul, Nat.reduceMod, evW, fn_eq, evR, Nat.reduceAdd, Nat.reduceLT, Nat.reduceLeDiff, reduceIte, Nat.reduceEqDiff, reduceCtorEq, argEnv, eq_self, if_true, if_false]
      repeat' ((first | rw [guardK_cases] | rw [condK_bool] | rw [guardD_cases]); split <;> simp only [hT, evX, Int.reduceEq, Int.reduceLT, Int.reduceLE, Nat.reduceMul, Nat.reduceMod, evW, evR, Nat.reduceAdd, Nat.reduceLT, Nat.reduceLeDiff, reduceIte, Nat.reduceEqDiff, reduceCtorEq, argEnv, eq_self, if_true, if_false, *])
      simp [small, g2]
  · simp only [hT, evX, Int.reduceEq, Int.reduceLT, Int.reduceLE, Nat.reduceMul, Nat.reduceMod, evW, fn_eq, evR, Nat.reduceAdd, Nat.reduceLT, Nat.reduceLeDiff, reduceIte, Nat.reduceEqDiff, reduceCtorEq, argEnv, eq_self, if_true, if_false]
    repeat' ((first | rw [guardK_cases] | rw [condK_bool] | rw [guardD_cases]); split <;> simp only [hT, evX, Int.reduceEq, Int.reduceLT, Int.reduceLE, Nat.reduceMul, Nat.reduceMod, evW, evR, Nat.reduceAdd, Nat.reduceLT, Nat.reduceLeDiff, reduceIte, Nat.reduceEqDiff, reduceCtorEq, argEnv, eq_self, if_true, if_false, *])
    simp [small, g]
end Go.Proofs.Ytcbmakanokmdjaa.Code

/- plain: First, closed. -/
set_option linter.unusedSimpArgs false
set_option linter.unusedVariables false
namespace Go.Proofs.Ytcbmakanokmdjaa.Code
open Go.Proofs.Ytcbmakanokmdjaa.Ev

theorem first_run : evCall cprog 300 10 [] [] = some (.bool true, []) := by kernel_rfl
theorem closed_any {call it} {c : CFn} {b : Bool} (hc : c.closed = true) (h : evFn call it c [] [] = some (.bool b, [])) (H : Heap) : evFn call it c [] H = some (.bool b, H) := by
  unfold evFn at h ⊢
  rw [if_pos hc] at h ⊢
  simp only at h ⊢
  split at h
  · cases h; rfl
  · cases h
theorem f10 (H : Heap) : cal (evC cprog) false 10 [] H = some (.bool true, H) := by
  have h := evC_of first_run
  rw [evC_fn at10] at h
  rw [cal_of at10, closed_any rfl h H, calK_f, gc_same]
end Go.Proofs.Ytcbmakanokmdjaa.Code

/- plain: the laws' arguments, opened. -/
set_option linter.unusedSimpArgs false
set_option linter.unusedVariables false
namespace Go.Proofs.Ytcbmakanokmdjaa.Code
open Go.Proofs.Ytcbmakanokmdjaa.Ev Go.RowKit

theorem typed {α : Type} {P : List AV → Prop} {enc : α → List AV} {Q : α → Prop} (h : ∀ r, P r → ∃ x, r = enc x ∧ Q x) : ∀ l : List (List AV), (∀ r ∈ l, P r) → ∃ xs : List α, l = xs.map enc ∧ ∀ x ∈ xs, Q x
  | [], _ => ⟨[], rfl, by simp⟩
  | r :: l, hl => by
    obtain ⟨x, rfl, hx⟩ := h r (hl r (List.mem_cons_self ..))
    obtain ⟨xs, rfl, hxs⟩ := typed h l fun r hr => hl r (List.mem_cons_of_mem _ hr)
    exact ⟨x :: xs, rfl, fun y hy => by (rcases List.mem_cons.1 hy with rfl | hy; exact hx; exact hxs y hy)⟩
theorem reach_lt {n : Nat} (h : n ≤ reachBytes) : n < 9223372036854775807 := by unfold reachBytes at h; omega
theorem open_Fd {r : List AV} (h : HasL [.str, .int .i64, .int .i64] r) : ∃ x : Fd, r = rFd x ∧ x.Ok := by
  simp only [HasL.eq_2, HasL.eq_1, Has] at h
  obtain ⟨x, xs, rfl, ⟨s, rfl, hs⟩, y, ys, rfl, ⟨f, rfl, _⟩, z, zs, rfl, ⟨o, rfl, _⟩, rfl⟩ := h
  exact ⟨⟨s, f, o⟩, rfl, ⟨reach_lt hs⟩⟩
theorem open_Se {r : List AV} (h : HasL [.str, .int .i64, .int .i64, .str] r) : ∃ x : Se, r = rSe x ∧ x.Ok := by
  simp only [HasL.eq_2, HasL.eq_1, Has] at h
  obtain ⟨x, xs, rfl, ⟨s, rfl, hs⟩, y, ys, rfl, ⟨f, rfl, _⟩, z, zs, rfl, ⟨o, rfl, _⟩, w, ws, rfl, ⟨p, rfl, hp⟩, rfl⟩ := h
  exact ⟨⟨s, f, o, p⟩, rfl, ⟨reach_lt hs, reach_lt hp⟩⟩
theorem open_Item {r : List AV} (h : HasL [.int .i64, .str] r) : ∃ x : Item, r = rItem x ∧ True := by
  simp only [HasL.eq_2, HasL.eq_1, Has] at h
  obtain ⟨x, xs, rfl, ⟨s, rfl, _⟩, y, ys, rfl, ⟨f, rfl, _⟩, rfl⟩ := h
  exact ⟨⟨s, f⟩, rfl, trivial⟩
theorem open_Ty {r : List AV} (h : HasL [.str, .int .i64, .int .i64, .int .i64, .sl [.str, .int .i64, .int .i64], .int .i64, .bool, .bool] r) : ∃ x : Ty, r = rTy x ∧ x.Ok := by
  simp only [HasL.eq_2, HasL.eq_1, Has] at h
  obtain ⟨_, _, rfl, ⟨a, rfl, ha⟩, _, _, rfl, ⟨b, rfl, _⟩, _, _, rfl, ⟨c, rfl, _⟩, _, _, rfl, ⟨d, rfl, _⟩, _, _, rfl, ⟨l, rfl, hl, hr⟩, _, _, rfl, ⟨e, rfl, _⟩, _, _, rfl, ⟨f, rfl⟩, _, _, rfl, ⟨g, rfl⟩, rfl⟩ := h
  obtain ⟨fs, rfl, hq⟩ := typed (P := HasL [.str, .int .i64, .int .i64]) (fun r h => open_Fd h) l (fun r h => by simpa only [HasL.eq_2, HasL.eq_1, Has] using hr r h)
  exact ⟨⟨a, b, c, d, fs, e, f, g⟩, rfl, ⟨reach_lt ha, reach_lt (by simpa using hl), hq⟩⟩
theorem open_Base {a : AV} (h : ArgTy true [.str, .int .i64, .sl [.str, .int .i64, .int .i64, .int .i64, .sl [.str, .int .i64, .int .i64], .int .i64, .bool, .bool], .sl [.str, .int .i64, .int .i64, .str]] a) : ∃ b : Base, a = eBase b ∧ b.Ok := by
  obtain ⟨bs, rfl, h⟩ := h
  simp only [HasL.eq_2, HasL.eq_1, Has] at h
  obtain ⟨_, _, rfl, ⟨n, rfl, hn⟩, _, _, rfl, ⟨k, rfl, _⟩, _, _, rfl, ⟨l, rfl, hl, hr⟩, _, _, rfl, ⟨l', rfl, hl', hr'⟩, rfl⟩ := h
  obtain ⟨ts, rfl, hq⟩ := typed (P := HasL [.str, .int .i64, .int .i64, .int .i64, .sl [.str, .int .i64, .int .i64], .int .i64, .bool, .bool]) (fun r h => open_Ty h) l (fun r h => by simpa only [HasL.eq_2, HasL.eq_1, Has] using hr r h)
  obtain ⟨xs, rfl, hq'⟩ := typed (P := HasL [.str, .int .i64, .int .i64, .str]) (fun r h => open_Se h) l' (fun r h => by simpa only [HasL.eq_2, HasL.eq_1, Has] using hr' r h)
  exact ⟨⟨n, k, ts, xs⟩, rfl, ⟨reach_lt hn, reach_lt (by simpa using hl), hq, reach_lt (by simpa using hl'), hq'⟩⟩
theorem open_Items {a : AV} (h : ArgTy false [.sl [.int .i64, .str]] a) : ∃ l : List Item, a = eItems l ∧ l.length < 9223372036854775807 := by
  have h : HasL [.sl [.int .i64, .str]] [a] := h
  simp only [HasL.eq_2, HasL.eq_1, Has] at h
  obtain ⟨x, xs, he, ⟨l, rfl, hl, hr⟩, rfl⟩ := h
  cases he
  obtain ⟨us, rfl, _⟩ := typed (P := HasL [.int .i64, .str]) (fun r h => open_Item h) l (fun r h => by simpa only [HasL.eq_2, HasL.eq_1, Has] using hr r h)
  exact ⟨us, rfl, reach_lt (by simpa using hl)⟩
end Go.Proofs.Ytcbmakanokmdjaa.Code

/- plain: ends of subtrees (mathematics). -/
set_option linter.unusedSimpArgs false
set_option linter.unusedVariables false
namespace Go.Proofs.Ytcbmakanokmdjaa.Code
open Go.Proofs.Ytcbmakanokmdjaa.Ev

/-- a base and a forest that are right -/
structure Right (b : Base) (f : List Item) : Prop where
  base : b.Ok
  valid : validB b = true
  forest : forestOk b.types f = true
theorem Right.tys {b : Base} {f : List Item} (h : Right b f) : tysOk b.types = true := valid_tys h.valid
theorem Right.len {b : Base} {f : List Item} (h : Right b f) : f.length ≤ 200 := by
  have := h.forest
  simp only [forestOk, Bool.and_eq_true, decide_eq_true_eq] at this
  omega
theorem Right.ok {b : Base} {f : List Item} (h : Right b f) : FOk b.types f f.length := fun j x _ hx => by
  have := h.forest
  simp only [forestOk, Bool.and_eq_true] at this
  exact tell_true.1 this.2 j x hx
theorem Right.fits {b : Base} {f : List Item} (h : Right b f) : AllFit b.types f := fun i x hx => ok_fits (h.ok i x (List.getElem?_eq_some_iff.1 hx).1 hx)
/-- an item has a type -/
theorem Right.item {b : Base} {f : List Item} (h : Right b f) {i : Nat} (hi : i < f.length) : ∃ (x : Item) (k : Nat) (t : Ty), f[i]? = some x ∧ x.type = (k : Int) ∧ k < b.types.length ∧ b.types[k]? = some t ∧ tyOk t = true ∧ t.min ≤ x.data.size ∧ (x.data.size : Int) ≤ t.size := by
  obtain ⟨x, hx⟩ : ∃ x, f[i]? = some x := ⟨_, List.getElem?_eq_getElem hi⟩
  obtain ⟨k, t, h1, h2, h3, h4, h5⟩ := fits_some (h.fits i x hx)
  have hty : tyOk t = true := by have := tell_true.1 h.tys k t h3; simp only [tyAt, Bool.and_eq_true] at this; exact this.1.1.1
  exact ⟨x, k, t, hx, h1, h2, h3, hty, h4, h5⟩
/-- the parent of an item -/
theorem Right.par {b : Base} {f : List Item} (h : Right b f) {i : Nat} {x : Item} {k : Nat} {t : Ty} (hx : f[i]? = some x) (hk : x.type = (k : Int)) (ht : b.types[k]? = some t) :
    (t.parent < 0 ∧ par b.types f i = -1 ∧ k = 0) ∨ ∃ p : Nat, par b.types f i = (p : Int) ∧ p < i ∧ (p : Int) ∈ way b.types f i ∧ 0 ≤ t.parent ∧ t.parent < (k : Int) ∧ typ f (p : Int) = t.parent := by
  have hi := (List.getElem?_eq_some_iff.1 hx).1
  have hpt : tpar b.types x.type = t.parent := by rw [hk, tpar_at ht]
  by_cases hp : t.parent < 0
  · exact .inl ⟨hp, by unfold Code.par; rw [typ_at hx, hpt, if_pos hp], (tys_root h.tys ht).1 hp⟩
  · have hok := h.ok i x hi hx
    simp only [okAt, Bool.and_eq_true, Bool.or_eq_true, decide_eq_true_eq, tell_true, hpt] at hok
    have hm : Code.par b.types f i ∈ way b.types f i := by rcases hok.1.2 with h1 | h1; (· omega); exact h1
    have hb := way_bound hm
    have hg := tys_good h.tys k t (List.getElem?_eq_some_iff.1 ht).1 ht
    refine .inr ⟨(Code.par b.types f i).toNat, by omega, by omega, by rw [Int.toNat_of_nonneg hb.1]; exact hm, by omega, by omega, ?_⟩
    rw [Int.toNat_of_nonneg hb.1, (par_typ hb.1).1, typ_at hx, hpt]
/-- the way of an item is as long as that of its type -/
theorem pth_len {b : Base} {f : List Item} (h : Right b f) : ∀ (n i : Nat), i ≤ n → i < f.length → (pth b.types f i).length = (anc b.types (typ f (i : Int)).toNat).length := by
  intro n
  induction n with
  | zero =>
    intro i hn hi
    obtain rfl : i = 0 := by omega
    obtain ⟨x, k, t, hx, hk, hkl, ht, _⟩ := h.item hi
    rw [pth_eq _ _ hi, typ_at hx, hk, Int.toNat_natCast, anc_step (tys_good h.tys) hkl ht]
    rcases h.par hx hk ht with ⟨h1, h2, _⟩ | ⟨p, h1, h2, _⟩
    · rw [h2, pthI_neg _ _ (by omega), ancI_neg _ h1]; rfl
    · omega
  | succ n ih =>
    intro i hn hi
    obtain ⟨x, k, t, hx, hk, hkl, ht, _⟩ := h.item hi
    rw [pth_eq _ _ hi, typ_at hx, hk, Int.toNat_natCast, anc_step (tys_good h.tys) hkl ht]
    rcases h.par hx hk ht with ⟨h1, h2, _⟩ | ⟨p, h1, h2, _, h4, _, h6⟩
    · rw [h2, pthI_neg _ _ (by omega), ancI_neg _ h1]; rfl
    · have := ih p (by omega) (by omega)
      rw [h6] at this
      obtain ⟨q, hq⟩ : ∃ q : Nat, t.parent = (q : Int) := ⟨t.parent.toNat, by omega⟩
      rw [hq, Int.toNat_natCast] at this
      rw [h1, pthI_nat, hq, ancI_nat]
      simp [this]
/-- where the way of the next item parts from a way -/
theorem way_cut {b : Base} {f : List Item} (h : Right b f) {k : Nat} (hk : k < f.length) : pth b.types f k = (way b.types f k).take (nOf b.types f k) ++ [(k : Int)] ∧ nOf b.types f k ≤ (way b.types f k).length := by
  obtain ⟨x, c, t, hx, hc, hcl, ht, _⟩ := h.item hk
  unfold nOf
  rw [pth_eq _ _ hk]
  rcases h.par hx hc ht with ⟨h1, h2, _⟩ | ⟨p, h1, h2, h3, h4, _, h6⟩
  · rw [h2, pthI_neg _ _ (by omega)]; simp
  · rw [h1, pthI_nat]
    obtain ⟨m, hm⟩ := List.getElem?_of_mem h3
    have ht := take_way b.types f (by omega) hm
    rw [Int.toNat_natCast] at ht
    have hml := (List.getElem?_eq_some_iff.1 hm).1
    have hl : (pth b.types f p).length = m + 1 := by rw [← ht, List.length_take]; omega
    rw [hl, ht]
    exact ⟨rfl, by omega⟩
theorem nodup_anc (ts : List Ty) : ∀ (n k : Nat), k ≤ n → (anc ts k).Nodup := by
  intro n
  induction n with
  | zero =>
    intro k hk
    obtain rfl : k = 0 := by omega
    rw [anc]
    split
    · rw [dif_neg (by omega)]; simp
    · simp
  | succ n ih =>
    intro k hk
    rw [anc]
    split
    · split
      · rename_i t _ h
        rw [List.nodup_append]
        refine ⟨ih _ (by omega), by simp, fun a ha b hb => ?_⟩
        have := anc_bound ha
        simp at hb
        omega
      · simp
    · simp
theorem mem_take_nodup {l : List Int} (h : l.Nodup) {m n : Nat} {a : Int} (hm : l[m]? = some a) : a ∈ l.take n ↔ m < n := by
  constructor
  · intro ha
    obtain ⟨j, hj⟩ := List.getElem?_of_mem ha
    rw [List.getElem?_take] at hj
    split at hj
    · have := (List.getElem?_eq_some_iff.1 hm).1
      have := (List.getElem?_inj this h).1 (hm.trans hj.symm)
      omega
    · cases hj
  · intro hn
    exact List.mem_of_getElem? (i := m) (by rw [List.getElem?_take, if_pos hn, hm])
theorem way_nodup (ts : List Ty) (f : List Item) (i : Nat) : (way ts f i).Nodup := by
  cases i with
  | zero => simp [way, wayTo]
  | succ i => exact nodup_anc _ i i (Nat.le_refl _)
/-- an item on the way ahead is on the way if and only if the way is longer than its own -/
theorem below_len {b : Base} {f : List Item} (h : Right b f) {i k : Nat} (hi : i < k) (hk : k < f.length) (hm : (i : Int) ∈ way b.types f k) : (i : Int) ∈ pth b.types f k ↔ (pth b.types f i).length < (pth b.types f k).length := by
  obtain ⟨h1, h2⟩ := way_cut h hk
  obtain ⟨m, hm⟩ := List.getElem?_of_mem hm
  have ht := take_way b.types f (by omega) hm
  rw [Int.toNat_natCast] at ht
  have hml := (List.getElem?_eq_some_iff.1 hm).1
  have hl : (pth b.types f i).length = m + 1 := by rw [← ht, List.length_take]; omega
  rw [hl, h1, List.mem_append, mem_take_nodup (way_nodup _ _ _) hm, List.length_append, List.length_take, Nat.min_eq_left h2]
  simp
  omega
/-- behind the subtree of an item -/
structure IsEnd (ts : List Ty) (f : List Item) (i e : Nat) : Prop where
  lt : i < e
  le : e ≤ f.length
  all : ∀ k : Nat, i < k → k < e → (i : Int) ∈ pth ts f k
  no : e < f.length → (i : Int) ∉ pth ts f e
theorem IsEnd.uniq {ts : List Ty} {f : List Item} {i e e' : Nat} (h : IsEnd ts f i e) (h' : IsEnd ts f i e') : e = e' := by
  by_cases h1 : e < e'
  · have := h'.le
    exact absurd (h'.all e h.lt h1) (h.no (by omega))
  · by_cases h2 : e' < e
    · have := h.le
      exact absurd (h.all e' h'.lt h2) (h'.no (by omega))
    · omega
def endFrom (ts : List Ty) (f : List Item) (i : Nat) : Nat → Nat → Nat
  | 0, k => k
  | n + 1, k => if (i : Int) ∈ pth ts f k then endFrom ts f i n (k + 1) else k
def endOf (ts : List Ty) (f : List Item) (i : Nat) : Nat := endFrom ts f i (f.length - (i + 1)) (i + 1)
theorem endFrom_is (ts : List Ty) (f : List Item) (i : Nat) : ∀ (n k : Nat), n + k = f.length → i < k → (∀ j : Nat, i < j → j < k → (i : Int) ∈ pth ts f j) → IsEnd ts f i (endFrom ts f i n k)
  | 0, k, hn, hk, h => ⟨hk, by simp [endFrom]; omega, h, fun h => by simp [endFrom] at h; omega⟩
  | n + 1, k, hn, hk, h => by
    unfold endFrom
    split
    · rename_i hm
      refine endFrom_is ts f i n (k + 1) (by omega) (by omega) fun j h1 h2 => ?_
      by_cases e : j = k
      · subst e; exact hm
      · exact h j h1 (by omega)
    · rename_i hm
      exact ⟨hk, by omega, h, fun _ => hm⟩
theorem endOf_is (ts : List Ty) (f : List Item) {i : Nat} (hi : i < f.length) : IsEnd ts f i (endOf ts f i) := endFrom_is ts f i _ _ (by omega) (by omega) fun j h1 h2 => by omega
/-- what is ahead of a place in a subtree is in that subtree -/
theorem IsEnd.way {ts : List Ty} {f : List Item} {i e : Nat} (hall : ∀ k : Nat, i < k → k < e → (i : Int) ∈ pth ts f k) {k : Nat} (h1 : i < k) (h2 : k ≤ e) : (i : Int) ∈ way ts f k := by
  obtain ⟨k, rfl⟩ : ∃ j, k = j + 1 := ⟨k - 1, by omega⟩
  change (i : Int) ∈ pth ts f k
  by_cases e' : k = i
  · subst e'; exact pth_self ts f k
  · exact hall k (by omega) (by omega)
end Go.Proofs.Ytcbmakanokmdjaa.Code

/- plain: what is asked of bases, forests and places; parents, depths and ends. -/
set_option linter.unusedSimpArgs false
set_option linter.unusedVariables false
namespace Go.Proofs.Ytcbmakanokmdjaa.Code
open Go.Proofs.Ytcbmakanokmdjaa.Ev

def outOf (f : List Item) (i : Int) : Bool := decide (i < 0) || decide ((f.length : Int) ≤ i)
noncomputable def errF (b : Base) (f : List Item) (l : List Int) : Int := if validB b = true then (if forestOk b.types f = true then (if l.any (outOf f) = true then 2 else 0) else 120) else 100
theorem slI {H : Heap} {a : AV} {l : List Int} (h : SlAt H 1 a (l.map rI)) {i : Nat} {n : Int} (hi : l[i]? = some n) : ∃ p, iaddrK 1 (some a) (some (.int .i64 (i : Int))) = some p ∧ ∀ X, loadK false 1 (H ++ X) (some p) = some (.int .i64 n) := by
  obtain ⟨_, p, h1, h2⟩ := h.get i (rI n) (by rw [List.getElem?_map, hi]; rfl)
  exact ⟨p, h1, fun X => h2.onex X⟩
theorem f66 (f : List Item) (i : Int) (b1 : Nat) (H : Heap) (h1 : Sits H b1 (bItems f)) : cal (evC cprog) false 66 [.int .i64 i, .ptr b1 0 1 0 0] H = some (.bool (outOf f i), H) := by
  rw [cal_of at66]
  have hlen := (sItems [] f).len
  simp only [List.length_map] at hlen
  have g1 := h1.at
  simp only [bItems] at g1
  simp only [c66, hlen, g1, evX, Int.reduceEq, Int.reduceLT, Int.reduceLE, Nat.reduceMul, Nat.reduceMod, evW, fn_eq, evR, Nat.reduceAdd, Nat.reduceLT, Nat.reduceLeDiff, reduceIte, Nat.reduceEqDiff, reduceCtorEq, argEnv, eq_self, if_true, if_false]
  repeat' ((first | rw [guardK_cases] | rw [condK_bool] | rw [guardD_cases]); split <;> simp only [c66, hlen, g1, evX, Int.reduceEq, Int.reduceLT, Int.reduceLE, Nat.reduceMul, Nat.reduceMod, evW, evR, Nat.reduceAdd, Nat.reduceLT, Nat.reduceLeDiff, reduceIte, Nat.reduceEqDiff, reduceCtorEq, argEnv, eq_self, if_true, if_false, *])
  all_goals (simp_all [outOf]; try omega)
theorem f37 (b : Base) (hb : b.Ok) (f : List Item) (a : AV) (hat : a.isTup = false) (l : List Int) (hl : l.length < 9223372036854775807) (H : Heap) (ha : SlAt H 1 a (l.map rI)) : cal (evC cprog) false 37 [eBase b, eItems f, a] H = some (.int .i64 (errF b f l), H) := by
  rw [cal_of at37]
  have h1 := f32 b hb
  simp only [eBase] at h1
  cases hv : validB b with
  | false =>
    simp only [c37, eBase, cells_eItems, isTup_eItems, h1, hv, evX, Int.reduceEq, Int.reduceLT, Int.reduceLE, Nat.reduceMul, Nat.reduceMod, evW, fn_eq, evR, Nat.reduceAdd, Nat.reduceLT, Nat.reduceLeDiff, reduceIte, Nat.reduceEqDiff, reduceCtorEq, argEnv, eq_self, if_true, if_false]
    repeat' ((first | rw [guardK_cases] | rw [condK_bool] | rw [guardD_cases]); split <;> simp only [c37, eBase, cells_eItems, isTup_eItems, h1, hv, evX, Int.reduceEq, Int.reduceLT, Int.reduceLE, Nat.reduceMul, Nat.reduceMod, evW, evR, Nat.reduceAdd, Nat.reduceLT, Nat.reduceLeDiff, reduceIte, Nat.reduceEqDiff, reduceCtorEq, argEnv, eq_self, if_true, if_false, *])
    simp [errF, hv]
  | true =>
    have h2 := f33 b (valid_tys hv) f
    simp only [eBase] at h2
    cases hf : forestOk b.types f with
    | false =>
      simp only [c37, eBase, cells_eItems, isTup_eItems, h1, hv, h2, hf, evX, Int.reduceEq, Int.reduceLT, Int.reduceLE, Nat.reduceMul, Nat.reduceMod, evW, fn_eq, evR, Nat.reduceAdd, Nat.reduceLT, Nat.reduceLeDiff, reduceIte, Nat.reduceEqDiff, reduceCtorEq, argEnv, eq_self, if_true, if_false]
      repeat' ((first | rw [guardK_cases] | rw [condK_bool] | rw [guardD_cases]); split <;> simp only [c37, eBase, cells_eItems, isTup_eItems, h1, hv, h2, hf, evX, Int.reduceEq, Int.reduceLT, Int.reduceLE, Nat.reduceMul, Nat.reduceMod, evW, evR, Nat.reduceAdd, Nat.reduceLT, Nat.reduceLeDiff, reduceIte, Nat.reduceEqDiff, reduceCtorEq, argEnv, eq_self, if_true, if_false, *])
      simp [errF, hv, hf]
    | true =>
      have h65 := containsFunc_ok (g := 57) at65 (indexFunc_ok (sz := 1) (ag := false) at57 rI (fun x => .int .i64 x) lI 66 [.ptr (H.length + 1) 0 1 0 0] (outOf f) (H ++ [bBase b, bItems f]) a l (ha.app _) hl fun x _ => f66 f x (H.length + 1) _ (.mk (by simp)))
      simp only [bBase, bItems] at h65
      cases hc : l.any (outOf f) with
      | false =>
        simp only [c37, eBase, cells_eItems, isTup_eItems, h1, hv, h2, hf, h65, hc, scal_ptr, hat, evX, Int.reduceEq, Int.reduceLT, Int.reduceLE, Nat.reduceMul, Nat.reduceMod, evW, fn_eq, evR, Nat.reduceAdd, Nat.reduceLT, Nat.reduceLeDiff, reduceIte, Nat.reduceEqDiff, reduceCtorEq, argEnv, eq_self, if_true, if_false]
        repeat' ((first | rw [guardK_cases] | rw [condK_bool] | rw [guardD_cases]); split <;> simp only [c37, eBase, cells_eItems, isTup_eItems, h1, hv, h2, hf, h65, hc, scal_ptr, hat, evX, Int.reduceEq, Int.reduceLT, Int.reduceLE, Nat.reduceMul, Nat.reduceMod, evW, evR, Nat.reduceAdd, Nat.reduceLT, Nat.reduceLeDiff, reduceIte, Nat.reduceEqDiff, reduceCtorEq, argEnv, eq_self, if_true, if_false, *])
        simp [errF, hv, hf, hc]
      | true =>
        simp only [c37, eBase, cells_eItems, isTup_eItems, h1, hv, h2, hf, h65, hc, scal_ptr, hat, evX, Int.reduceEq, Int.reduceLT, Int.reduceLE, Nat.reduceMul, Nat.reduceMod, evW, fn_eq, evR, Nat.reduceAdd, Nat.reduceLT, Nat.reduceLeDiff, reduceIte, Nat.reduceEqDiff, reduceCtorEq, argEnv, eq_self, if_true, if_false]
        repeat' ((first | rw [guardK_cases] | rw [condK_bool] | rw [guardD_cases]); split <;> simp only [c37, eBase, cells_eItems, isTup_eItems, h1, hv, h2, hf, h65, hc, scal_ptr, hat, evX, Int.reduceEq, Int.reduceLT, Int.reduceLE, Nat.reduceMul, Nat.reduceMod, evW, evR, Nat.reduceAdd, Nat.reduceLT, Nat.reduceLeDiff, reduceIte, Nat.reduceEqDiff, reduceCtorEq, argEnv, eq_self, if_true, if_false, *])
        simp [errF, hv, hf, hc]
theorem f22 (b : Base) (hb : b.Ok) (f : List Item) (hfl : f.length < 9223372036854775807) (a : AV) (l : List Int) (hl : l.length < 9223372036854775807) (H : Heap) (ha : SlAt H 1 a (l.map rI)) : cal (evC cprog) false 22 [eBase b, eItems f, a] H = some (.int .i64 (errF b f l), H) := by
  rw [cal_of at22]
  have h1 := f34 b hb
  simp only [eBase] at h1
  have hlen := (sItems [] f).len
  have hlen' := ha.len
  simp only [List.length_map] at hlen hlen'
  cases hv : validB b with
  | false =>
    simp only [c22, eBase, h1, hv, evX, Int.reduceEq, Int.reduceLT, Int.reduceLE, Nat.reduceMul, Nat.reduceMod, evW, fn_eq, evR, Nat.reduceAdd, Nat.reduceLT, Nat.reduceLeDiff, reduceIte, Nat.reduceEqDiff, reduceCtorEq, argEnv, eq_self, if_true, if_false]
    repeat' ((first | rw [guardK_cases] | rw [condK_bool] | rw [guardD_cases]); split <;> simp only [c22, eBase, h1, hv, evX, Int.reduceEq, Int.reduceLT, Int.reduceLE, Nat.reduceMul, Nat.reduceMod, evW, evR, Nat.reduceAdd, Nat.reduceLT, Nat.reduceLeDiff, reduceIte, Nat.reduceEqDiff, reduceCtorEq, argEnv, eq_self, if_true, if_false, *])
    simp [errF, hv]
  | true =>
    have h2 := f35 b (valid_tys hv) f
    simp only [eBase] at h2
    cases hf : forestOk b.types f with
    | false =>
      simp only [c22, eBase, h1, hv, h2, hf, evX, Int.reduceEq, Int.reduceLT, Int.reduceLE, Nat.reduceMul, Nat.reduceMod, evW, fn_eq, evR, Nat.reduceAdd, Nat.reduceLT, Nat.reduceLeDiff, reduceIte, Nat.reduceEqDiff, reduceCtorEq, argEnv, eq_self, if_true, if_false]
      repeat' ((first | rw [guardK_cases] | rw [condK_bool] | rw [guardD_cases]); split <;> simp only [c22, eBase, h1, hv, h2, hf, evX, Int.reduceEq, Int.reduceLT, Int.reduceLE, Nat.reduceMul, Nat.reduceMod, evW, evR, Nat.reduceAdd, Nat.reduceLT, Nat.reduceLeDiff, reduceIte, Nat.reduceEqDiff, reduceCtorEq, argEnv, eq_self, if_true, if_false, *])
      simp [errF, hv, hf]
    | true =>
      simp only [c22, eBase, h1, hv, h2, hf, evX, Int.reduceEq, Int.reduceLT, Int.reduceLE, Nat.reduceMul, Nat.reduceMod, evW, fn_eq, evR, Nat.reduceAdd, Nat.reduceLT, Nat.reduceLeDiff, reduceIte, Nat.reduceEqDiff, reduceCtorEq, argEnv, eq_self, if_true, if_false]
      repeat' ((first | rw [guardK_cases] | rw [condK_bool] | rw [guardD_cases]); split <;> simp only [c22, eBase, h1, hv, h2, hf, evX, Int.reduceEq, Int.reduceLT, Int.reduceLE, Nat.reduceMul, Nat.reduceMod, evW, evR, Nat.reduceAdd, Nat.reduceLT, Nat.reduceLeDiff, reduceIte, Nat.reduceEqDiff, reduceCtorEq, argEnv, eq_self, if_true, if_false, *])
      generalize hz : itLim _ _ = z
      have L := all_rule l (fun i => !outOf f i) [1, 2, 7] (fun i => [(1, eItems f), (2, a), (7, .int .i64 (i : Int))]) H [bBase b] (evCode (evC cprog) itLim c22_l0) (fun c T => c = .exit 1) (fun c T => c = .ret ∧ get T 6 = some (.int .i64 2))
        (fun i x hx E G hE => by
          have hlt : i < l.length := (List.getElem?_eq_some_iff.1 hx).1
          have hi : (i : Int) < (l.length : Int) := by omega
          obtain ⟨p, g1, g2⟩ := slI ha hx
          have hw := wrapS hlt hl
          by_cases n1 : x < 0
          · simp only [c22_l0, hE, hi, hlen', g1, g2, n1, evX, Int.reduceEq, Int.reduceLT, Int.reduceLE, Nat.reduceMul, Nat.reduceMod, evW, fn_eq, evR, Nat.reduceAdd, Nat.reduceLT, Nat.reduceLeDiff, reduceIte, Nat.reduceEqDiff, reduceCtorEq, argEnv, eq_self, if_true, if_false]
            repeat' ((first | rw [guardK_cases] | rw [condK_bool] | rw [guardD_cases]); split <;> simp only [c22_l0, hE, hi, hlen', g1, g2, n1, evX, Int.reduceEq, Int.reduceLT, Int.reduceLE, Nat.reduceMul, Nat.reduceMod, evW, evR, Nat.reduceAdd, Nat.reduceLT, Nat.reduceLeDiff, reduceIte, Nat.reduceEqDiff, reduceCtorEq, argEnv, eq_self, if_true, if_false, *])
            exact Sc.ret (by simp [outOf, n1]) ⟨rfl, rfl⟩
          by_cases n2 : (f.length : Int) ≤ x
          · simp only [c22_l0, hE, hi, hlen', hlen, g1, g2, n1, n2, evX, Int.reduceEq, Int.reduceLT, Int.reduceLE, Nat.reduceMul, Nat.reduceMod, evW, fn_eq, evR, Nat.reduceAdd, Nat.reduceLT, Nat.reduceLeDiff, reduceIte, Nat.reduceEqDiff, reduceCtorEq, argEnv, eq_self, if_true, if_false]
            repeat' ((first | rw [guardK_cases] | rw [condK_bool] | rw [guardD_cases]); split <;> simp only [c22_l0, hE, hi, hlen', hlen, g1, g2, n1, n2, evX, Int.reduceEq, Int.reduceLT, Int.reduceLE, Nat.reduceMul, Nat.reduceMod, evW, evR, Nat.reduceAdd, Nat.reduceLT, Nat.reduceLeDiff, reduceIte, Nat.reduceEqDiff, reduceCtorEq, argEnv, eq_self, if_true, if_false, *])
            exact Sc.ret (by simp [outOf, n2]) ⟨rfl, rfl⟩
          · simp only [c22_l0, hE, hi, hlen', hlen, g1, g2, n1, n2, hw, evX, Int.reduceEq, Int.reduceLT, Int.reduceLE, Nat.reduceMul, Nat.reduceMod, evW, fn_eq, evR, Nat.reduceAdd, Nat.reduceLT, Nat.reduceLeDiff, reduceIte, Nat.reduceEqDiff, reduceCtorEq, argEnv, eq_self, if_true, if_false]
            repeat' ((first | rw [guardK_cases] | rw [condK_bool] | rw [guardD_cases]); split <;> simp only [c22_l0, hE, hi, hlen', hlen, g1, g2, n1, n2, hw, evX, Int.reduceEq, Int.reduceLT, Int.reduceLE, Nat.reduceMul, Nat.reduceMod, evW, evR, Nat.reduceAdd, Nat.reduceLT, Nat.reduceLeDiff, reduceIte, Nat.reduceEqDiff, reduceCtorEq, argEnv, eq_self, if_true, if_false, *])
            exact Sc.next (by simp [outOf]; omega) (by rfl))
        (fun E G hE => by
          simp only [c22_l0, hE, hlen', Int.lt_irrefl, evX, Int.reduceEq, Int.reduceLT, Int.reduceLE, Nat.reduceMul, Nat.reduceMod, evW, fn_eq, evR, Nat.reduceAdd, Nat.reduceLT, Nat.reduceLeDiff, reduceIte, Nat.reduceEqDiff, reduceCtorEq, argEnv, eq_self, if_true, if_false]
          repeat' ((first | rw [guardK_cases] | rw [condK_bool] | rw [guardD_cases]); split <;> simp only [c22_l0, hE, hlen', Int.lt_irrefl, evX, Int.reduceEq, Int.reduceLT, Int.reduceLE, Nat.reduceMul, Nat.reduceMod, evW, evR, Nat.reduceAdd, Nat.reduceLT, Nat.reduceLeDiff, reduceIte, Nat.reduceEqDiff, reduceCtorEq, argEnv, eq_self, if_true, if_false, *])
          exact .exit (K := [bBase b]) rfl) _ [] (by rfl) (by simp [bBase]) z hz
      rcases L with ⟨ha, c, T, G, rfl, _, rfl⟩ | ⟨ha, c, T, G, rfl, _, rfl, hT⟩
      · simp only [evX, Int.reduceEq, Int.reduceLT, Int.reduceLE, Nat.reduceMul, Nat.reduceMod, evW, fn_eq, evR, Nat.reduceAdd, Nat.reduceLT, Nat.reduceLeDiff, reduceIte, Nat.reduceEqDiff, reduceCtorEq, argEnv, eq_self, if_true, if_false]
        repeat' ((first | rw [guardK_cases] | rw [condK_bool] | rw [guardD_cases]); split <;> simp only [evX, Int.reduceEq, Int.reduceLT, Int.reduceLE, Nat.reduceMul, Nat.reduceMod, evW, evR, Nat.reduceAdd, Nat.reduceLT, Nat.reduceLeDiff, reduceIte, Nat.reduceEqDiff, reduceCtorEq, argEnv, eq_self, if_true, if_false, *])
        have : l.any (outOf f) = false := by rw [List.any_eq_false]; intro x hx; have := List.all_eq_true.1 ha x hx; simpa using this
        simp [errF, hv, hf, this]
      · simp only [hT, evX, Int.reduceEq, Int.reduceLT, Int.reduceLE, Nat.reduceMul, Nat.reduceMod, evW, fn_eq, evR, Nat.reduceAdd, Nat.reduceLT, Nat.reduceLeDiff, reduceIte, Nat.reduceEqDiff, reduceCtorEq, argEnv, eq_self, if_true, if_false]
        repeat' ((first | rw [guardK_cases] | rw [condK_bool] | rw [guardD_cases]); split <;> simp only [hT, evX, Int.reduceEq, Int.reduceLT, Int.reduceLE, Nat.reduceMul, Nat.reduceMod, evW, evR, Nat.reduceAdd, Nat.reduceLT, Nat.reduceLeDiff, reduceIte, Nat.reduceEqDiff, reduceCtorEq, argEnv, eq_self, if_true, if_false, *])
        have : l.any (outOf f) = true := by
          obtain ⟨x, hx, h⟩ := List.all_eq_false.1 ha
          rw [List.any_eq_true]; exact ⟨x, hx, by simpa using h⟩
        simp [errF, hv, hf, this]
theorem f53 (b : Base) (f : List Item) (hr : Right b f) (i : Nat) (hi : i < f.length) (H : Heap) : cal (evC cprog) false 53 [eBase b, eItems f, .int .i64 (i : Int)] H = some (.int .i64 (par b.types f i), H) := by
  rw [cal_of at53]
  obtain ⟨x, k, t, hx, hk, hkl, ht, _⟩ := hr.item hi
  have ha := aItem hx
  have hat := aTy ht
  rw [← hk] at hat
  have hl := hr.len
  rcases hr.par hx hk ht with ⟨h1, h2, _⟩ | ⟨p, h1, h2, h3, h4, h5, h6⟩
  · rw [h2]
    simp only [c53, eBase, ha, hat, rItem, rTy, h1, evX, Int.reduceEq, Int.reduceLT, Int.reduceLE, Nat.reduceMul, Nat.reduceMod, evW, fn_eq, evR, Nat.reduceAdd, Nat.reduceLT, Nat.reduceLeDiff, reduceIte, Nat.reduceEqDiff, reduceCtorEq, argEnv, eq_self, if_true, if_false]
    repeat' ((first | rw [guardK_cases] | rw [condK_bool] | rw [guardD_cases]); split <;> simp only [c53, eBase, ha, hat, rItem, rTy, h1, evX, Int.reduceEq, Int.reduceLT, Int.reduceLE, Nat.reduceMul, Nat.reduceMod, evW, evR, Nat.reduceAdd, Nat.reduceLT, Nat.reduceLeDiff, reduceIte, Nat.reduceEqDiff, reduceCtorEq, argEnv, eq_self, if_true, if_false, *])
  · rw [h1]
    have n0 : ¬ t.parent < 0 := by omega
    have hw : IntKind.i64.wrap ((i : Int) - 1) = (i : Int) - 1 := wrap_i64 (by omega) (by omega)
    simp only [c53, eBase, ha, hat, rItem, rTy, n0, hw, evX, Int.reduceEq, Int.reduceLT, Int.reduceLE, Nat.reduceMul, Nat.reduceMod, evW, fn_eq, evR, Nat.reduceAdd, Nat.reduceLT, Nat.reduceLeDiff, reduceIte, Nat.reduceEqDiff, reduceCtorEq, argEnv, eq_self, if_true, if_false]
    repeat' ((first | rw [guardK_cases] | rw [condK_bool] | rw [guardD_cases]); split <;> simp only [c53, eBase, ha, hat, rItem, rTy, n0, hw, evX, Int.reduceEq, Int.reduceLT, Int.reduceLE, Nat.reduceMul, Nat.reduceMod, evW, evR, Nat.reduceAdd, Nat.reduceLT, Nat.reduceLeDiff, reduceIte, Nat.reduceEqDiff, reduceCtorEq, argEnv, eq_self, if_true, if_false, *])
    generalize hz : itLim _ _ = z
    have hlast : lastTo f t.parent i = (p : Int) := by
      have e : par b.types f i = lastTo f t.parent i := by unfold par; rw [typ_at hx, hk, tpar_at ht, if_neg n0]
      rw [← e, h1]
    have L := loop_rule (σ := Int) (m := [1, 2, 7]) (env := fun k => [(1, eItems f), (2, .int .i64 k), (7, .int .i64 t.parent)]) (hp := fun _ => H ++ [bBase b])
      (P := fun k r => ∃ T, r = (.exit 0, T, H ++ [bBase b]) ∧ get T 2 = some (.int .i64 (p : Int))) (mu := fun k => (k + 1).toNat)
      (I := fun k => (p : Int) ≤ k ∧ k < (i : Int) ∧ lastTo f t.parent (k + 1).toNat = (p : Int)) (evCode (evC cprog) itLim c53_l0) ?_ ((i : Int) - 1) _ ⟨by omega, by omega, by rw [show ((i : Int) - 1 + 1).toNat = i by omega]; exact hlast⟩ (by rfl) (by simp [bBase]) z hz
    · obtain ⟨_, rfl, T, rfl, hT⟩ := L
      simp only [hT, evX, Int.reduceEq, Int.reduceLT, Int.reduceLE, Nat.reduceMul, Nat.reduceMod, evW, fn_eq, evR, Nat.reduceAdd, Nat.reduceLT, Nat.reduceLeDiff, reduceIte, Nat.reduceEqDiff, reduceCtorEq, argEnv, eq_self, if_true, if_false]
      repeat' ((first | rw [guardK_cases] | rw [condK_bool] | rw [guardD_cases]); split <;> simp only [hT, evX, Int.reduceEq, Int.reduceLT, Int.reduceLE, Nat.reduceMul, Nat.reduceMod, evW, evR, Nat.reduceAdd, Nat.reduceLT, Nat.reduceLeDiff, reduceIte, Nat.reduceEqDiff, reduceCtorEq, argEnv, eq_self, if_true, if_false, *])
    · intro k ⟨i1, i2, i3⟩ E hE
      obtain ⟨j, rfl⟩ : ∃ j : Nat, k = (j : Int) := ⟨k.toNat, by omega⟩
      obtain ⟨y, hy⟩ : ∃ y, f[j]? = some y := ⟨_, List.getElem?_eq_getElem (by omega)⟩
      have hay := aItem hy
      have hwj : IntKind.i64.wrap ((j : Int) - 1) = (j : Int) - 1 := wrap_i64 (by omega) (by omega)
      rw [show ((j : Int) + 1).toNat = j + 1 by omega, lastTo, typ_at hy] at i3
      by_cases hyt : y.type = t.parent
      · rw [if_pos hyt] at i3
        simp only [c53_l0, hE, hay, hyt, rItem, evX, Int.reduceEq, Int.reduceLT, Int.reduceLE, Nat.reduceMul, Nat.reduceMod, evW, fn_eq, evR, Nat.reduceAdd, Nat.reduceLT, Nat.reduceLeDiff, reduceIte, Nat.reduceEqDiff, reduceCtorEq, argEnv, eq_self, if_true, if_false]
        repeat' ((first | rw [guardK_cases] | rw [condK_bool] | rw [guardD_cases]); split <;> simp only [c53_l0, hE, hay, hyt, rItem, evX, Int.reduceEq, Int.reduceLT, Int.reduceLE, Nat.reduceMul, Nat.reduceMod, evW, evR, Nat.reduceAdd, Nat.reduceLT, Nat.reduceLeDiff, reduceIte, Nat.reduceEqDiff, reduceCtorEq, argEnv, eq_self, if_true, if_false, *])
        exact q_exit ⟨_, rfl, by rw [← i3]; rfl⟩
      · rw [if_neg hyt] at i3
        simp only [c53_l0, hE, hay, hyt, hwj, rItem, evX, Int.reduceEq, Int.reduceLT, Int.reduceLE, Nat.reduceMul, Nat.reduceMod, evW, fn_eq, evR, Nat.reduceAdd, Nat.reduceLT, Nat.reduceLeDiff, reduceIte, Nat.reduceEqDiff, reduceCtorEq, argEnv, eq_self, if_true, if_false]
        repeat' ((first | rw [guardK_cases] | rw [condK_bool] | rw [guardD_cases]); split <;> simp only [c53_l0, hE, hay, hyt, hwj, rItem, evX, Int.reduceEq, Int.reduceLT, Int.reduceLE, Nat.reduceMul, Nat.reduceMod, evW, evR, Nat.reduceAdd, Nat.reduceLT, Nat.reduceLeDiff, reduceIte, Nat.reduceEqDiff, reduceCtorEq, argEnv, eq_self, if_true, if_false, *])
        have := (lastTo_lt f t.parent j).2
        exact q_next ((j : Int) - 1) (by rfl) rfl ⟨by omega, by omega, by rw [show ((j : Int) - 1 + 1).toNat = j by omega]; exact i3⟩ (by omega) fun r h => h
theorem f67 (b : Base) (ht : tysOk b.types = true) (k : Nat) (hk : k < b.types.length) (h8 : b.types.length ≤ 1000) (H : Heap) : cal (evC cprog) false 67 [eBase b, .int .i64 (k : Int)] H = some (.int .i64 ((anc b.types k).length : Int), H) := by
  rw [cal_of at67]
  simp only [c67, eBase, evX, Int.reduceEq, Int.reduceLT, Int.reduceLE, Nat.reduceMul, Nat.reduceMod, evW, fn_eq, evR, Nat.reduceAdd, Nat.reduceLT, Nat.reduceLeDiff, reduceIte, Nat.reduceEqDiff, reduceCtorEq, argEnv, eq_self, if_true, if_false]
  repeat' ((first | rw [guardK_cases] | rw [condK_bool] | rw [guardD_cases]); split <;> simp only [c67, eBase, evX, Int.reduceEq, Int.reduceLT, Int.reduceLE, Nat.reduceMul, Nat.reduceMod, evW, evR, Nat.reduceAdd, Nat.reduceLT, Nat.reduceLeDiff, reduceIte, Nat.reduceEqDiff, reduceCtorEq, argEnv, eq_self, if_true, if_false, *])
  generalize hz : itLim _ _ = z
  have key : ∀ H' : Heap, Sits H' H.length (bBase b) → ∀ st : St, keepEnv st.1 [1, 2, 5] = [(1, .int .i64 (k : Int)), (2, .ptr H.length 0 4 0 0), (5, .int .i64 0)] → st.2 = H' → ∀ z, itLim (evCode (evC cprog) itLim c67_l0) st = z → ∃ T, z = some (.exit 0, T, H') ∧ get T 5 = some (.int .i64 ((anc b.types k).length : Int)) := by
    intro H' hs st h1 h2 z hz
    simp only [bBase, Sits] at hs
    have hs0 := hs []
    simp only [List.append_nil] at hs0
    have L := loop_rule (σ := Int × Nat) (m := [1, 2, 5]) (env := fun s => [(1, .int .i64 s.1), (2, .ptr H.length 0 4 0 0), (5, .int .i64 (s.2 : Int))]) (hp := fun _ => H')
      (P := fun s r => ∃ T, r = (.exit 0, T, H') ∧ get T 5 = some (.int .i64 (((ancI b.types s.1).length + s.2 : Nat) : Int))) (mu := fun s => (s.1 + 1).toNat)
      (I := fun s => -1 ≤ s.1 ∧ s.1 < (b.types.length : Int) ∧ s.1 + s.2 ≤ 2000) (evCode (evC cprog) itLim c67_l0) ?_ ((k : Int), 0) st ⟨by simp only; omega, by simp only; omega, by simp only; omega⟩ h1 h2 z hz
    · obtain ⟨_, rfl, T, rfl, hT⟩ := L
      exact ⟨T, rfl, by simpa [ancI_nat] using hT⟩
    · intro ⟨t, n⟩ ⟨i1, i2, i3⟩ E hE
      simp only at i1 i2 i3 hE ⊢
      by_cases h0 : 0 ≤ t
      · obtain ⟨j, rfl⟩ : ∃ j : Nat, t = (j : Int) := ⟨t.toNat, by omega⟩
        obtain ⟨t, hj⟩ : ∃ t, b.types[j]? = some t := ⟨_, List.getElem?_eq_getElem (by omega)⟩
        have ha := aTy hj
        have hgt := tys_good ht j t (by omega) hj
        have hst := anc_step (tys_good ht) (by omega) hj
        have hw := wrapS (i := n) (n := 2001) (by omega) (by omega)
        simp only [c67_l0, hE, h0, ha, hs0, rTy, hw, evX, Int.reduceEq, Int.reduceLT, Int.reduceLE, Nat.reduceMul, Nat.reduceMod, evW, fn_eq, evR, Nat.reduceAdd, Nat.reduceLT, Nat.reduceLeDiff, reduceIte, Nat.reduceEqDiff, reduceCtorEq, argEnv, eq_self, if_true, if_false]
        repeat' ((first | rw [guardK_cases] | rw [condK_bool] | rw [guardD_cases]); split <;> simp only [c67_l0, hE, h0, ha, hs0, rTy, hw, evX, Int.reduceEq, Int.reduceLT, Int.reduceLE, Nat.reduceMul, Nat.reduceMod, evW, evR, Nat.reduceAdd, Nat.reduceLT, Nat.reduceLeDiff, reduceIte, Nat.reduceEqDiff, reduceCtorEq, argEnv, eq_self, if_true, if_false, *])
        refine q_next (t.parent, n + 1) (by rfl) rfl ⟨by omega, by simp only; omega, by simp only; omega⟩ (by simp only; omega) fun r h => ?_
        obtain ⟨T, h3, h⟩ := h
        refine ⟨T, h3, ?_⟩
        rw [ancI_nat, hst, h, List.length_append, List.length_singleton]
        simp only
        congr 3; omega
      · simp only [c67_l0, hE, h0, evX, Int.reduceEq, Int.reduceLT, Int.reduceLE, Nat.reduceMul, Nat.reduceMod, evW, fn_eq, evR, Nat.reduceAdd, Nat.reduceLT, Nat.reduceLeDiff, reduceIte, Nat.reduceEqDiff, reduceCtorEq, argEnv, eq_self, if_true, if_false]
        repeat' ((first | rw [guardK_cases] | rw [condK_bool] | rw [guardD_cases]); split <;> simp only [c67_l0, hE, h0, evX, Int.reduceEq, Int.reduceLT, Int.reduceLE, Nat.reduceMul, Nat.reduceMod, evW, evR, Nat.reduceAdd, Nat.reduceLT, Nat.reduceLeDiff, reduceIte, Nat.reduceEqDiff, reduceCtorEq, argEnv, eq_self, if_true, if_false, *])
        exact q_exit ⟨_, rfl, by rw [ancI_neg _ (by omega)]; simp [Ev.get]⟩
  obtain ⟨T, rfl, hT⟩ := key (H ++ [bBase b]) (.mk (by simp)) _ (by rfl) (by simp [bBase]) z hz
  simp only [hT, evX, Int.reduceEq, Int.reduceLT, Int.reduceLE, Nat.reduceMul, Nat.reduceMod, evW, fn_eq, evR, Nat.reduceAdd, Nat.reduceLT, Nat.reduceLeDiff, reduceIte, Nat.reduceEqDiff, reduceCtorEq, argEnv, eq_self, if_true, if_false]
  repeat' ((first | rw [guardK_cases] | rw [condK_bool] | rw [guardD_cases]); split <;> simp only [hT, evX, Int.reduceEq, Int.reduceLT, Int.reduceLE, Nat.reduceMul, Nat.reduceMod, evW, evR, Nat.reduceAdd, Nat.reduceLT, Nat.reduceLeDiff, reduceIte, Nat.reduceEqDiff, reduceCtorEq, argEnv, eq_self, if_true, if_false, *])
end Go.Proofs.Ytcbmakanokmdjaa.Code

/- plain: ends of subtrees, of the program and of the document. -/
set_option linter.unusedSimpArgs false
set_option linter.unusedVariables false
namespace Go.Proofs.Ytcbmakanokmdjaa.Code
open Go.Proofs.Ytcbmakanokmdjaa.Ev

theorem anc_len8 {b : Base} {f : List Item} (h : Right b f) {k : Nat} (hk : k < b.types.length) : (anc b.types k).length ≤ 5 ∧ b.types.length ≤ 8 := by
  obtain ⟨t, ht⟩ : ∃ t, b.types[k]? = some t := ⟨_, List.getElem?_eq_getElem hk⟩
  have h1 := tell_true.1 h.tys k t ht
  simp only [tyAt, Bool.and_eq_true, decide_eq_true_eq] at h1
  have h2 := h.valid
  simp only [validB, areTys, Bool.and_eq_true, decide_eq_true_eq] at h2
  omega
theorem f40 (b : Base) (f : List Item) (hr : Right b f) (i : Nat) (hi : i < f.length) (H : Heap) : cal (evC cprog) false 40 [eBase b, eItems f, .int .i64 (i : Int)] H = some (.int .i64 (endOf b.types f i : Int), H) := by
  rw [cal_of at40]
  obtain ⟨x, k, t, hx, hk, hkl, ht, _⟩ := hr.item hi
  have ha := aItem hx
  have h8 := anc_len8 hr hkl
  have h67 := f67 b hr.tys k hkl (by omega)
  rw [← hk] at h67
  simp only [eBase] at h67
  have hl := hr.len
  have hlen := (sItems [] f).len
  simp only [List.length_map] at hlen
  have hw := wrapS (i := i) (n := 300) (by omega) (by omega)
  have hd : (anc b.types k).length = (pth b.types f i).length := by rw [pth_len hr i i (Nat.le_refl _) hi, typ_at hx, hk, Int.toNat_natCast]
  rw [hd] at h67
  simp only [c40, eBase, ha, rItem, h67, hw, evX, Int.reduceEq, Int.reduceLT, Int.reduceLE, Nat.reduceMul, Nat.reduceMod, evW, fn_eq, evR, Nat.reduceAdd, Nat.reduceLT, Nat.reduceLeDiff, reduceIte, Nat.reduceEqDiff, reduceCtorEq, argEnv, eq_self, if_true, if_false]
  repeat' ((first | rw [guardK_cases] | rw [condK_bool] | rw [guardD_cases]); split <;> simp only [c40, eBase, ha, rItem, h67, hw, evX, Int.reduceEq, Int.reduceLT, Int.reduceLE, Nat.reduceMul, Nat.reduceMod, evW, evR, Nat.reduceAdd, Nat.reduceLT, Nat.reduceLeDiff, reduceIte, Nat.reduceEqDiff, reduceCtorEq, argEnv, eq_self, if_true, if_false, *])
  generalize hz : itLim _ _ = z
  have key : ∀ H' : Heap, Sits H' H.length (bBase b) → ∀ st : St, keepEnv st.1 [1, 2, 3, 7] = [(1, eItems f), (2, .int .i64 ((i + 1 : Nat) : Int)), (3, .ptr H.length 0 4 0 0), (7, .int .i64 ((pth b.types f i).length : Int))] → st.2 = H' → ∀ z, itLim (evCode (evC cprog) itLim c40_l0) st = z →
      ∃ T, z = some (.exit 0, T, H') ∧ get T 2 = some (.int .i64 (endOf b.types f i : Int)) := by
    intro H' hs st h1 h2 z hz
    simp only [bBase, Sits] at hs
    have hs0 := hs []
    simp only [List.append_nil] at hs0
    have L := loop_rule (σ := Nat) (m := [1, 2, 3, 7]) (env := fun k => [(1, eItems f), (2, .int .i64 (k : Int)), (3, .ptr H.length 0 4 0 0), (7, .int .i64 ((pth b.types f i).length : Int))]) (hp := fun _ => H')
      (P := fun _ r => ∃ T, r = (.exit 0, T, H') ∧ get T 2 = some (.int .i64 (endOf b.types f i : Int))) (mu := fun k => f.length - k)
      (I := fun k => i < k ∧ k ≤ f.length ∧ ∀ j : Nat, i < j → j < k → (i : Int) ∈ pth b.types f j) (evCode (evC cprog) itLim c40_l0) ?_ (i + 1) st ⟨by omega, by omega, fun j h1 h2 => by omega⟩ h1 h2 z hz
    · obtain ⟨_, rfl, T, rfl, hT⟩ := L
      exact ⟨T, rfl, hT⟩
    · intro k ⟨i1, i2, i3⟩ E hE
      by_cases hkl : k < f.length
      · have hk1 : (k : Int) < (f.length : Int) := by omega
        obtain ⟨y, c, u, hy, hc, hcl, hu, _⟩ := hr.item hkl
        have hay := aItem hy
        have h67' := f67 b hr.tys c hcl (by omega)
        rw [← hc] at h67'
        simp only [eBase] at h67'
        have hd' : (anc b.types c).length = (pth b.types f k).length := by rw [pth_len hr k k (Nat.le_refl _) hkl, typ_at hy, hc, Int.toNat_natCast]
        rw [hd'] at h67'
        have hwk := wrapS (i := k) (n := 300) (by omega) (by omega)
        have hiff := below_len hr i1 hkl (IsEnd.way i3 i1 (Nat.le_refl _))
        by_cases hm : (i : Int) ∈ pth b.types f k
        · have hlt : ((pth b.types f i).length : Int) < ((pth b.types f k).length : Int) := by have := hiff.1 hm; omega
          simp only [c40_l0, hE, hk1, hlen, hay, hs0, rItem, h67', hlt, hwk, evX, Int.reduceEq, Int.reduceLT, Int.reduceLE, Nat.reduceMul, Nat.reduceMod, evW, fn_eq, evR, Nat.reduceAdd, Nat.reduceLT, Nat.reduceLeDiff, reduceIte, Nat.reduceEqDiff, reduceCtorEq, argEnv, eq_self, if_true, if_false]
          repeat' ((first | rw [guardK_cases] | rw [condK_bool] | rw [guardD_cases]); split <;> simp only [c40_l0, hE, hk1, hlen, hay, hs0, rItem, h67', hlt, hwk, evX, Int.reduceEq, Int.reduceLT, Int.reduceLE, Nat.reduceMul, Nat.reduceMod, evW, evR, Nat.reduceAdd, Nat.reduceLT, Nat.reduceLeDiff, reduceIte, Nat.reduceEqDiff, reduceCtorEq, argEnv, eq_self, if_true, if_false, *])
          refine q_next (k + 1) (by rfl) rfl ⟨by omega, by omega, fun j h1 h2 => ?_⟩ (by omega) fun r h => h
          by_cases e : j = k
          · subst e; exact hm
          · exact i3 j h1 (by omega)
        · have hlt : ¬ ((pth b.types f i).length : Int) < ((pth b.types f k).length : Int) := fun h => hm (hiff.2 (by omega))
          simp only [c40_l0, hE, hk1, hlen, hay, hs0, rItem, h67', hlt, evX, Int.reduceEq, Int.reduceLT, Int.reduceLE, Nat.reduceMul, Nat.reduceMod, evW, fn_eq, evR, Nat.reduceAdd, Nat.reduceLT, Nat.reduceLeDiff, reduceIte, Nat.reduceEqDiff, reduceCtorEq, argEnv, eq_self, if_true, if_false]
          repeat' ((first | rw [guardK_cases] | rw [condK_bool] | rw [guardD_cases]); split <;> simp only [c40_l0, hE, hk1, hlen, hay, hs0, rItem, h67', hlt, evX, Int.reduceEq, Int.reduceLT, Int.reduceLE, Nat.reduceMul, Nat.reduceMod, evW, evR, Nat.reduceAdd, Nat.reduceLT, Nat.reduceLeDiff, reduceIte, Nat.reduceEqDiff, reduceCtorEq, argEnv, eq_self, if_true, if_false, *])
          refine q_exit ⟨_, rfl, ?_⟩
          rw [(endOf_is b.types f hi).uniq ⟨i1, i2, i3, fun _ => hm⟩]; rfl
      · have hk1 : ¬ (k : Int) < (f.length : Int) := by omega
        simp only [c40_l0, hE, hk1, hlen, evX, Int.reduceEq, Int.reduceLT, Int.reduceLE, Nat.reduceMul, Nat.reduceMod, evW, fn_eq, evR, Nat.reduceAdd, Nat.reduceLT, Nat.reduceLeDiff, reduceIte, Nat.reduceEqDiff, reduceCtorEq, argEnv, eq_self, if_true, if_false]
        repeat' ((first | rw [guardK_cases] | rw [condK_bool] | rw [guardD_cases]); split <;> simp only [c40_l0, hE, hk1, hlen, evX, Int.reduceEq, Int.reduceLT, Int.reduceLE, Nat.reduceMul, Nat.reduceMod, evW, evR, Nat.reduceAdd, Nat.reduceLT, Nat.reduceLeDiff, reduceIte, Nat.reduceEqDiff, reduceCtorEq, argEnv, eq_self, if_true, if_false, *])
        refine q_exit ⟨_, rfl, ?_⟩
        rw [(endOf_is b.types f hi).uniq ⟨i1, i2, i3, fun h => absurd h hkl⟩]; rfl
  obtain ⟨T, rfl, hT⟩ := key (H ++ [bBase b]) (.mk (by simp)) _ (by rfl) (by simp [bBase]) z hz
  simp only [hT, evX, Int.reduceEq, Int.reduceLT, Int.reduceLE, Nat.reduceMul, Nat.reduceMod, evW, fn_eq, evR, Nat.reduceAdd, Nat.reduceLT, Nat.reduceLeDiff, reduceIte, Nat.reduceEqDiff, reduceCtorEq, argEnv, eq_self, if_true, if_false]
  repeat' ((first | rw [guardK_cases] | rw [condK_bool] | rw [guardD_cases]); split <;> simp only [hT, evX, Int.reduceEq, Int.reduceLT, Int.reduceLE, Nat.reduceMul, Nat.reduceMod, evW, evR, Nat.reduceAdd, Nat.reduceLT, Nat.reduceLeDiff, reduceIte, Nat.reduceEqDiff, reduceCtorEq, argEnv, eq_self, if_true, if_false, *])
end Go.Proofs.Ytcbmakanokmdjaa.Code

/- plain: Delete, of the program and of the document. -/
set_option linter.unusedSimpArgs false
set_option linter.unusedVariables false
namespace Go.Proofs.Ytcbmakanokmdjaa.Code
open Go.Proofs.Ytcbmakanokmdjaa.Ev

theorem plain_items (l : List Item) : Plain (l.map rItem) := fz_rItem l
theorem plain_ints (l : List Int) : Plain (l.map rI) := fz_rI l
def eLE (l : List Item) (e : Int) : AV := .tup [eItems l, .int .i64 e]
theorem errF_zero {b : Base} {f : List Item} {l : List Int} (hb : b.Ok) (h : errF b f l = 0) : Right b f ∧ ∀ i ∈ l, 0 ≤ i ∧ i < (f.length : Int) := by
  unfold errF at h
  split at h
  · rename_i hv
    split at h
    · rename_i hf
      split at h
      · cases h
      · rename_i ho
        refine ⟨⟨hb, hv, hf⟩, fun i hi => ?_⟩
        have := List.any_eq_false.1 (Bool.eq_false_iff.2 ho) i hi
        simp only [outOf, Bool.or_eq_true, decide_eq_true_eq] at this
        omega
    · cases h
  · cases h
noncomputable def delR (b : Base) (f : List Item) (i : Int) : List Item := if errF b f [i] = 0 then f.take i.toNat ++ f.drop (endOf b.types f i.toNat) else []
theorem one_slat (H : Heap) (n : Int) (X : Heap) : SlAt (H ++ (X ++ [⟨0, true, 3, 1, [[.int .i64 n]]⟩])) 1 (.ref (H.length + X.length) 0 1 0 1) ([n].map rI) := by
  refine .ref (rows := [rI n]) (k := ⟨0, true, 3, 1, [[.int .i64 n]]⟩) ?_ fun i row hi => ?_
  · simp [curBlk, at_app]
  · cases i with
    | zero => simp at hi; subst hi; exact ⟨rfl, rfl⟩
    | succ i => simp at hi
theorem items_ne {f : List Item} {i : Nat} (h : i < f.length) : ∃ y ys, f = y :: ys := by
  cases f with
  | nil => simp at h
  | cons y ys => exact ⟨y, ys, rfl⟩
theorem f39 {f : List Item} {i : Nat} (h : i < f.length) (hl : f.length ≤ 1000) (H : Heap) : cal (evC cprog) false 39 [eItems f] H = some (.ref H.length 0 2 0 f.length, H ++ [⟨0, true, 50, 2, f.map rItem⟩]) := by
  obtain ⟨y, ys, rfl⟩ := items_ne h
  have := clone_lst (ty := 50) (sz := 2) (bytes := 24) at39 (rItem y) (ys.map rItem) H rfl (by simp [reach] at *; omega)
  rw [List.length_map] at this
  exact this
def zItem : List AV := [.int .i64 0, .str ⟨#[]⟩]
theorem f15 (b : Base) (hb : b.Ok) (f : List Item) (hfl : f.length < 9223372036854775807) (i : Int) (H : Heap) : cal (evC cprog) true 15 [eBase b, eItems f, .int .i64 i] H = some (eLE (delR b f i) (errF b f [i]), H) := by
  rw [cal_of at15]
  have h37 := f37 b hb f (.ref (H.length + 1) 0 1 0 1) rfl [i] (by simp) (H ++ [bBase b, bI i]) (one_slat H i [bBase b])
  simp only [eBase, bBase, bI] at h37
  by_cases he : errF b f [i] = 0
  · obtain ⟨hr, ho⟩ := errF_zero hb he
    obtain ⟨h0, h1⟩ := ho i (by simp)
    obtain ⟨i, rfl⟩ : ∃ j : Nat, i = (j : Int) := ⟨i.toNat, by omega⟩
    have hi : i < f.length := by omega
    have hl := hr.len
    have h39 := f39 hi (by omega)
    have h40 := f40 b f hr i hi
    simp only [eBase] at h40
    have hend := endOf_is b.types f hi
    have h38 := delete_ref (ty := 50) (sz := 2) (bytes := 24) (zero := zItem) at38 rfl (H.length + 2) 0 (f.map rItem) (fun r hr => by obtain ⟨_, _, rfl⟩ := List.mem_map.1 hr; rfl) (H ++ [bBase b, bI i, ⟨0, true, 50, 2, f.map rItem⟩]) (by simp) i (endOf b.types f i) hend.lt (by rw [List.length_map]; exact hend.le)
    simp only [bBase, bI, List.length_map] at h38
    rw [he] at h37
    have hd : delR b f (i : Int) = f.take i ++ f.drop (endOf b.types f i) := by unfold delR; rw [if_pos he, Int.toNat_natCast]
    rw [hd, he]
    simp only [c15, eBase, cells_eItems, isTup_eItems, h37, h39, h40, h38, evX, Int.reduceEq, Int.reduceLT, Int.reduceLE, Nat.reduceMul, Nat.reduceMod, evW, fn_eq, evR, Nat.reduceAdd, Nat.reduceLT, Nat.reduceLeDiff, reduceIte, Nat.reduceEqDiff, reduceCtorEq, argEnv, eq_self, if_true, if_false]
    repeat' ((first | rw [guardK_cases] | rw [condK_bool] | rw [guardD_cases]); split <;> simp only [c15, eBase, cells_eItems, isTup_eItems, h37, h39, h40, h38, evX, Int.reduceEq, Int.reduceLT, Int.reduceLE, Nat.reduceMul, Nat.reduceMod, evW, evR, Nat.reduceAdd, Nat.reduceLT, Nat.reduceLeDiff, reduceIte, Nat.reduceEqDiff, reduceCtorEq, argEnv, eq_self, if_true, if_false, *])
    have hle := hend.le
    have hlt := hend.lt
    have hrows : (f.map rItem).take i ++ (f.map rItem).drop (endOf b.types f i) = (f.take i ++ f.drop (endOf b.types f i)).map rItem := by simp
    have hlen : (f.take i ++ f.drop (endOf b.types f i)).length = i + (f.length - endOf b.types f i) := by simp; omega
    obtain ⟨ids, g1, g2⟩ := fz_blk (H := H ++ [bBase b, bI i, ⟨0, true, 50, 2, (f.map rItem).take i ++ ((f.map rItem).drop (endOf b.types f i) ++ List.replicate (endOf b.types f i - i) zItem)⟩]) (b := H.length + 2) (v := 0) (sz := 2) (len := i + (f.length - endOf b.types f i))
      (k := ⟨0, true, 50, 2, (f.map rItem).take i ++ ((f.map rItem).drop (endOf b.types f i) ++ List.replicate (endOf b.types f i - i) zItem)⟩) (by simp [curBlk]) (rows := (f.take i ++ f.drop (endOf b.types f i)).map rItem) (by
        rw [← List.append_assoc, hrows, List.take_left' (by rw [List.length_map]; exact hlen)]) (plain_items _) 6
    exact frz_two (ids := ids) g1 rfl (by simp) (fun x hx => by have := g2 x hx; omega) _ _
  · rw [show delR b f i = [] from if_neg he]
    simp only [c15, eBase, cells_eItems, isTup_eItems, h37, he, evX, Int.reduceEq, Int.reduceLT, Int.reduceLE, Nat.reduceMul, Nat.reduceMod, evW, fn_eq, evR, Nat.reduceAdd, Nat.reduceLT, Nat.reduceLeDiff, reduceIte, Nat.reduceEqDiff, reduceCtorEq, argEnv, eq_self, if_true, if_false]
    repeat' ((first | rw [guardK_cases] | rw [condK_bool] | rw [guardD_cases]); split <;> simp only [c15, eBase, cells_eItems, isTup_eItems, h37, he, evX, Int.reduceEq, Int.reduceLT, Int.reduceLE, Nat.reduceMul, Nat.reduceMod, evW, evR, Nat.reduceAdd, Nat.reduceLT, Nat.reduceLeDiff, reduceIte, Nat.reduceEqDiff, reduceCtorEq, argEnv, eq_self, if_true, if_false, *])
    exact frz_two (fz_nils _) rfl (by simp) (by simp) _ _
end Go.Proofs.Ytcbmakanokmdjaa.Code

/- plain: fits, keys and Replace, of the program and of the document. -/
set_option linter.unusedSimpArgs false
set_option linter.unusedVariables false
namespace Go.Proofs.Ytcbmakanokmdjaa.Code
open Go.Proofs.Ytcbmakanokmdjaa.Ev

def tyOut (ts : List Ty) (i : Int) : Bool := decide (i < 0) || decide ((ts.length : Int) ≤ i)
theorem Base.Ok.lens {b : Base} (hb : b.Ok) (h : validB b = true) : b.types.length ≤ 8 ∧ b.indexes.length ≤ 3 := by
  simp only [validB, areTys, Bool.and_eq_true, decide_eq_true_eq] at h
  omega
end Go.Proofs.Ytcbmakanokmdjaa.Code

/- plain: Replace, of the program and of the document. -/
set_option linter.unusedSimpArgs false
set_option linter.unusedVariables false
namespace Go.Proofs.Ytcbmakanokmdjaa.Code
open Go.Proofs.Ytcbmakanokmdjaa.Ev

end Go.Proofs.Ytcbmakanokmdjaa.Code

/- The law PlainChanges is true. -/
set_option linter.unusedSimpArgs false
set_option linter.unusedVariables false
namespace Go.Proofs.Ytcbmakanokmdjaa.Code
open Go.Proofs.Ytcbmakanokmdjaa.Ev Go.RowKit

theorem open_Put {a : AV} (h : ArgTy true [.int .i64, .int .i64, .int .i64, .str] a) : ∃ (p t o : Int) (d : ByteArray), a = .agg [.int .i64 p, .int .i64 t, .int .i64 o, .str d] := by
  obtain ⟨bs, rfl, h⟩ := h
  simp only [HasL.eq_2, HasL.eq_1, Has] at h
  obtain ⟨_, _, rfl, ⟨p, rfl, _⟩, _, _, rfl, ⟨t, rfl, _⟩, _, _, rfl, ⟨o, rfl, _⟩, _, _, rfl, ⟨d, rfl, _⟩, rfl⟩ := h
  exact ⟨p, t, o, d, rfl⟩
theorem small_len {b : Base} {f : List Item} (h : small b f = true) : f.length ≤ 60 := by
  simp only [small, Bool.and_eq_true, decide_eq_true_eq] at h
  omega
end Go.Proofs.Ytcbmakanokmdjaa.Code
namespace Go.Proofs.Ytcbmakanokmdjaa.Pure
open Go.Proofs.Ytcbmakanokmdjaa.Ev Go.Proofs.Ytcbmakanokmdjaa.Code
end Go.Proofs.Ytcbmakanokmdjaa.Pure

/- plain: which types are a part, and copies of types. -/
set_option linter.unusedSimpArgs false
set_option linter.unusedVariables false
namespace Go.Proofs.Ytcbmakanokmdjaa.Code
open Go.Proofs.Ytcbmakanokmdjaa.Ev

def at_ (l : List Int) (n : Int) : Int := idxOf (fun x => decide (x = n)) l
theorem at_some {l : List Int} {n : Int} (h : n ∈ l) : ∃ m : Nat, at_ l n = (m : Int) ∧ m < l.length ∧ l[m]? = some n := by
  rcases idxOf_cases (fun x => decide (x = n)) l with ⟨h1, h2⟩ | ⟨m, a, h1, h2, h3⟩
  · have := h2 n h; simp at this
  · have := of_decide_eq_true h3
    subst this
    exact ⟨m, h1, (List.getElem?_eq_some_iff.1 h2).1, h2⟩
def rises (l : List Int) (i : Nat) (t : Int) : Bool := if i = 0 then true else match l[i - 1]? with
  | some p => decide (p < t)
  | none => false
def partAt (ts : List Ty) (l : List Int) (i : Nat) (t : Int) : Bool := !tyOut ts t && rises l i t && (decide (tpar ts t < 0) || decide (tpar ts t ∈ l.take i))
noncomputable def partsOk (ts : List Ty) (l : List Int) : Bool := tell (∀ (i : Nat) (t : Int), l[i]? = some t → partAt ts l i t = true)
theorem in_types {ts : List Ty} {t : Int} (h : tyOut ts t = false) : ∃ (k : Nat) (u : Ty), t = (k : Int) ∧ k < ts.length ∧ ts[k]? = some u := by
  simp only [tyOut, Bool.or_eq_false_iff, decide_eq_false_iff_not] at h
  exact ⟨t.toNat, ts[t.toNat]'(by omega), by omega, by omega, List.getElem?_eq_getElem (by omega)⟩
def upTy (t : Ty) (p : Int) : Ty := { t with parent := p }
end Go.Proofs.Ytcbmakanokmdjaa.Code

/- plain: bases with some types alone, of the program. -/
set_option linter.unusedSimpArgs false
set_option linter.unusedVariables false
namespace Go.Proofs.Ytcbmakanokmdjaa.Code
open Go.Proofs.Ytcbmakanokmdjaa.Ev

def partTy (ts : List Ty) (l : List Int) (t : Int) : Ty := upTy (tyOf ts t) (at_ l (tpar ts t))
def partSe (l : List Int) (x : Se) : Se := { x with type := at_ l x.type }
def partSes (l : List Int) (xs : List Se) : List Se := (xs.filter fun x => decide (x.type ∈ l)).map (partSe l)
def partB (b : Base) (l : List Int) : Base := ⟨b.name, b.kind, l.map (partTy b.types l), partSes l b.indexes⟩
end Go.Proofs.Ytcbmakanokmdjaa.Code

/- plain: bases with some types alone, of the program: indexes, and the whole. -/
set_option linter.unusedSimpArgs false
set_option linter.unusedVariables false
namespace Go.Proofs.Ytcbmakanokmdjaa.Code
open Go.Proofs.Ytcbmakanokmdjaa.Ev

theorem partSes_len (l : List Int) (xs : List Se) : (partSes l xs).length ≤ xs.length := by
  unfold partSes
  rw [List.length_map]
  exact List.length_filter_le _ _
theorem isPart_range {ts : List Ty} {l : List Int} (h : partsOk ts l = true) : ∀ x ∈ l, tyOut ts x = false := fun x hx => by
  obtain ⟨i, hi⟩ := List.getElem?_of_mem hx
  have := tell_true.1 h i x hi
  simp only [partAt, Bool.and_eq_true, Bool.not_eq_true'] at this
  exact this.1.1
end Go.Proofs.Ytcbmakanokmdjaa.Code

/- plain: bases with some types alone, of the document. -/
set_option linter.unusedSimpArgs false
set_option linter.unusedVariables false
namespace Go.Proofs.Ytcbmakanokmdjaa.Code
open Go.Proofs.Ytcbmakanokmdjaa.Ev

end Go.Proofs.Ytcbmakanokmdjaa.Code

/- plain: the items with some types alone, of the program and of the document. -/
set_option linter.unusedSimpArgs false
set_option linter.unusedVariables false
namespace Go.Proofs.Ytcbmakanokmdjaa.Code
open Go.Proofs.Ytcbmakanokmdjaa.Ev

def partI (l : List Int) (x : Item) : Item := ⟨at_ l x.type, x.data⟩
def partL (l : List Int) (f : List Item) : List Item := (f.filter fun x => decide (x.type ∈ l)).map (partI l)
theorem partL_step (l : List Int) {xs : List Item} {i : Nat} {x : Item} (hx : xs[i]? = some x) : partL l (xs.take (i + 1)) = partL l (xs.take i) ++ (if x.type ∈ l then [partI l x] else []) := by
  unfold partL
  rw [List.take_add_one, hx, Option.toList_some, List.filter_append, List.map_append]
  congr 1
  by_cases h : x.type ∈ l
  · simp [h]
  · simp [h]
theorem partL_len (l : List Int) (xs : List Item) : (partL l xs).length ≤ xs.length := by
  unfold partL
  rw [List.length_map]
  exact List.length_filter_le _ _
theorem parts_lt {ts : List Ty} {l : List Int} (hp : partsOk ts l = true) : ∀ (j i : Nat) (a c : Int), i < j → l[i]? = some a → l[j]? = some c → a < c := by
  intro j
  induction j with
  | zero => intro i a c h; omega
  | succ j ih =>
    intro i a c hij ha hc
    have h := tell_true.1 hp (j + 1) c hc
    simp only [partAt, rises, Bool.and_eq_true, Nat.add_sub_cancel] at h
    have hr := h.1.2
    rw [if_neg (by omega)] at hr
    split at hr
    · rename_i p hp'
      have h2 := of_decide_eq_true hr
      by_cases e : i = j
      · subst e; rw [hp'] at ha; cases ha; exact h2
      · have := ih i a p (by omega) ha hp'; omega
    · cases hr
theorem at_at {ts : List Ty} {l : List Int} (hp : partsOk ts l = true) {k : Nat} {t : Int} (h : l[k]? = some t) : at_ l t = (k : Int) := by
  obtain ⟨m, h1, h2, h3⟩ := at_some (List.mem_of_getElem? h)
  rw [h1]
  rcases Nat.lt_trichotomy m k with hm | hm | hm
  · have := parts_lt hp k m t t hm h3 h; omega
  · rw [hm]
  · have := parts_lt hp m k t t hm h h3; omega
theorem nil_slat (H : Heap) : SlAt H 1 .nils (([] : List Int).map rI) := out_slat (.nils 0 1 3 H) [] rfl (by simp)
end Go.Proofs.Ytcbmakanokmdjaa.Code

/- plain: a base with some types alone is valid (mathematics). -/
set_option linter.unusedSimpArgs false
set_option linter.unusedVariables false
namespace Go.Proofs.Ytcbmakanokmdjaa.Code
open Go.Proofs.Ytcbmakanokmdjaa.Ev

theorem nodup_take {α : Type} (g : α → ByteArray) (l : List α) : (∀ (i : Nat) (x : α), l[i]? = some x → ((l.take i).any fun y => decide (g y = g x)) = false) ↔ (l.map g).Nodup := by
  unfold List.Nodup
  rw [List.pairwise_iff_getElem]
  constructor
  · intro h i j hi hj hij e
    rw [List.length_map] at hi hj
    rw [List.getElem_map, List.getElem_map] at e
    have h1 := List.any_eq_false.1 (h j l[j] (List.getElem?_eq_getElem hj)) l[i] (List.mem_of_getElem? (i := i) (by rw [List.getElem?_take, if_pos hij, List.getElem?_eq_getElem (by omega)]))
    simp [e] at h1
  · intro h i x hx
    rw [List.any_eq_false]
    intro y hy hyx
    obtain ⟨j, hj⟩ := List.getElem?_of_mem hy
    rw [List.getElem?_take] at hj
    split at hj
    · rename_i hji
      obtain ⟨hi, rfl⟩ := List.getElem?_eq_some_iff.1 hx
      obtain ⟨hj', rfl⟩ := List.getElem?_eq_some_iff.1 hj
      refine h j i (by rw [List.length_map]; exact hj') (by rw [List.length_map]; exact hi) hji ?_
      rw [List.getElem_map, List.getElem_map]
      exact of_decide_eq_true hyx
    · cases hj
structure Part (b : Base) (l : List Int) : Prop where
  base : b.Ok
  valid : validB b = true
  parts : partsOk b.types l = true
  ne : l ≠ []
theorem Part.tys {b : Base} {l : List Int} (h : Part b l) : tysOk b.types = true := valid_tys h.valid
theorem Part.at {b : Base} {l : List Int} (h : Part b l) {i : Nat} {t : Int} (hx : l[i]? = some t) : ∃ (k : Nat) (u : Ty), t = (k : Int) ∧ k < b.types.length ∧ b.types[k]? = some u ∧ tyAt b.types k u = true := by
  obtain ⟨k, u, h1, h2, h3⟩ := in_types (isPart_range h.parts t (List.mem_of_getElem? hx))
  exact ⟨k, u, h1, h2, h3, tell_true.1 h.tys k u h3⟩
theorem Part.ge {b : Base} {l : List Int} (h : Part b l) : ∀ (i : Nat) (t : Int), l[i]? = some t → (i : Int) ≤ t := by
  intro i
  induction i with
  | zero => intro t ht; obtain ⟨k, u, rfl, _⟩ := h.at ht; omega
  | succ i ih =>
    intro t ht
    have hlt := (List.getElem?_eq_some_iff.1 ht).1
    have := ih l[i] (List.getElem?_eq_getElem (by omega))
    have := parts_lt h.parts (i + 1) i l[i] t (by omega) (List.getElem?_eq_getElem (by omega)) ht
    omega
theorem Part.len {b : Base} {l : List Int} (h : Part b l) : l.length ≤ b.types.length := by
  have hpos := List.length_pos_iff.2 h.ne
  have h1 := h.ge (l.length - 1) l[l.length - 1] (List.getElem?_eq_getElem (by omega))
  obtain ⟨k, u, h2, h3, _⟩ := h.at (List.getElem?_eq_getElem (show l.length - 1 < l.length by omega))
  omega
theorem at_none {l : List Int} {n : Int} (h : n ∉ l) : at_ l n = -1 := by
  unfold at_ idxOf
  rw [List.findIdx?_eq_none_iff.2 fun x hx => by simp; rintro rfl; exact h hx]
/-- the first type of a part is the root; a later one's parent stands ahead -/
theorem Part.par {b : Base} {l : List Int} (h : Part b l) {i k : Nat} {u : Ty} (hx : l[i]? = some (k : Int)) (hu : b.types[k]? = some u) :
    (i = 0 ∧ k = 0 ∧ u.parent = -1 ∧ at_ l u.parent = -1) ∨ ∃ (p m : Nat), 0 < i ∧ 0 < k ∧ u.parent = (p : Int) ∧ m < i ∧ l[m]? = some (p : Int) ∧ at_ l u.parent = (m : Int) := by
  have hp := tell_true.1 h.parts i _ hx
  have ht := tell_true.1 h.tys k u hu
  simp only [partAt, Bool.and_eq_true, Bool.or_eq_true, decide_eq_true_eq, tpar_at hu] at hp
  by_cases hk : k = 0
  · subst hk
    have h1 := parent_root ht
    have hi : i = 0 := by have := h.ge i _ hx; omega
    refine .inl ⟨hi, rfl, h1, ?_⟩
    rw [h1]
    refine at_none fun hm => ?_
    obtain ⟨j, hj⟩ := List.getElem?_of_mem hm
    have := h.ge j _ hj; omega
  · obtain ⟨p, h1, h2, _⟩ := parent_of ht hk
    have hm : u.parent ∈ l.take i := by rcases hp.2 with h | h; (· omega); exact h
    obtain ⟨m, hm⟩ := List.getElem?_of_mem hm
    rw [List.getElem?_take] at hm
    split at hm
    · rename_i hmi
      exact .inr ⟨p, m, by omega, by omega, h1, hmi, by rw [hm, h1], at_at h.parts hm⟩
    · cases hm
theorem tys_between {ts : List Ty} (ht : tysOk ts = true) : ∀ (j : Nat), j < ts.length → ∀ a ∈ anc ts j, ∀ j' : Nat, a ≤ (j' : Int) → j' ≤ j → a ∈ anc ts j' := by
  intro j
  induction j with
  | zero =>
    intro hj a ha j' _ h2
    have e : j' = 0 := by omega
    subst e; exact ha
  | succ j ih =>
    intro hj a ha j' h1 h2
    by_cases e : j' = j + 1
    · subst e; exact ha
    · obtain ⟨t, htt⟩ : ∃ t, ts[j + 1]? = some t := ⟨_, List.getElem?_eq_getElem hj⟩
      obtain ⟨p, h3, h4, h5⟩ := parent_of (tell_true.1 ht (j + 1) t htt) (by omega)
      refine ih (by omega) a ?_ j' h1 (by omega)
      rw [anc_up htt h3 h4] at ha
      rcases List.mem_append.1 ha with ha | ha
      · exact anc_trans ts h5 ha
      · simp at ha; omega
def pTys (b : Base) (l : List Int) : List Ty := l.map (partTy b.types l)
theorem pTys_at {b : Base} {l : List Int} {i k : Nat} {u : Ty} (hx : l[i]? = some (k : Int)) (hu : b.types[k]? = some u) : (pTys b l)[i]? = some (upTy u (at_ l u.parent)) := by
  unfold pTys
  rw [List.getElem?_map, hx, Option.map_some, partTy, tyOf_at hu, tpar_at hu]
theorem pTys_anc {b : Base} {l : List Int} (h : Part b l) : ∀ (n i : Nat), i ≤ n → ∀ k : Nat, l[i]? = some (k : Int) → anc (pTys b l) i = (anc b.types k).map (at_ l) := by
  intro n
  induction n with
  | zero =>
    intro i hi k hx
    obtain rfl : i = 0 := by omega
    obtain ⟨k', u, h1, h2, hu, _⟩ := h.at hx
    obtain rfl : k' = k := by omega
    rcases h.par hx hu with ⟨_, hk, h3, h4⟩ | ⟨p, m, h3, _⟩
    · subst hk
      rw [anc_root (ts := pTys b l) fun t' ht' => by rw [pTys_at hx hu] at ht'; cases ht'; show at_ l u.parent < 0; omega, anc_root fun t' ht' => by rw [hu] at ht'; cases ht'; omega]
      rw [List.map_singleton, at_at h.parts hx]
    · omega
  | succ n ih =>
    intro i hi k hx
    obtain ⟨k', u, h1, h2, hu, _⟩ := h.at hx
    obtain rfl : k' = k := by omega
    rcases h.par hx hu with ⟨rfl, _⟩ | ⟨p, m, h3, h4, h5, h6, h7, h8⟩
    · exact ih 0 (by omega) k' hx
    · have hgt := tys_good h.tys k' u h2 hu
      rw [anc_up (pTys_at hx hu) (p := m) (by rw [upTy, h8]) h6, anc_up hu h5 (by omega), List.map_append, List.map_singleton, at_at h.parts hx, ih m (by omega) p h7]
theorem Part.tyAt {b : Base} {l : List Int} (h : Part b l) {i k : Nat} {u : Ty} (hx : l[i]? = some (k : Int)) (hu : b.types[k]? = some u) : Code.tyAt (pTys b l) i (upTy u (at_ l u.parent)) = true := by
  have ht := tell_true.1 h.tys k u hu
  have hkl := (List.getElem?_eq_some_iff.1 hu).1
  have hil := (List.getElem?_eq_some_iff.1 hx).1
  have h0 := ht
  simp only [Code.tyAt, Bool.and_eq_true, decide_eq_true_eq] at h0
  obtain ⟨⟨⟨a1, a2⟩, a3⟩, a4⟩ := h0
  unfold Code.tyAt
  simp only [Bool.and_eq_true, decide_eq_true_eq]
  refine ⟨⟨⟨a1, ?_⟩, ?_⟩, ?_⟩
  · rw [Bool.not_eq_true', List.any_eq_false]
    intro y hy hyn
    obtain ⟨j, hj⟩ := List.getElem?_of_mem hy
    rw [List.getElem?_take] at hj
    split at hj
    · rename_i hji
      obtain ⟨q, w, g1, g2, g3, _⟩ := h.at (List.getElem?_eq_getElem (show j < l.length by omega))
      have hjq : l[j]? = some (q : Int) := by rw [← g1]; exact List.getElem?_eq_getElem _
      rw [pTys_at hjq g3] at hj
      cases hj
      have hlt := parts_lt h.parts i j _ _ hji hjq hx
      rw [Bool.not_eq_true', List.any_eq_false] at a2
      exact a2 w (List.mem_of_getElem? (i := q) (by rw [List.getElem?_take, if_pos (by omega)]; exact g3)) hyn
    · cases hj
  · rcases h.par hx hu with ⟨rfl, rfl, h3, h4⟩ | ⟨p, m, h3, h4, h5, h6, h7, h8⟩
    · rw [if_pos rfl] at a3 ⊢
      have e : upTy u (at_ l u.parent) = u := by rw [h4, ← h3]; rfl
      rw [e]; exact a3
    · rw [if_neg (by omega)] at a3 ⊢
      have a3 := of_decide_eq_true a3
      obtain ⟨j, rfl⟩ : ∃ j, i = j + 1 := ⟨i - 1, by omega⟩
      obtain ⟨r, rfl⟩ : ∃ r, k = r + 1 := ⟨k - 1, by omega⟩
      obtain ⟨v, w, g1, g2, g3, _⟩ := h.at (List.getElem?_eq_getElem (show j < l.length by omega))
      have hjv : l[j]? = some (v : Int) := by rw [← g1]; exact List.getElem?_eq_getElem _
      have hv := parts_lt h.parts (j + 1) j _ _ (by omega) hjv hx
      have hpv : (p : Int) ≤ (v : Int) := by
        by_cases e : m = j
        · subst e; rw [h7] at hjv; cases hjv; exact Int.le_refl _
        · have := parts_lt h.parts j m _ _ (by omega) h7 hjv; omega
      change u.parent ∈ anc b.types r at a3
      rw [h5] at a3
      have hm := tys_between h.tys r (by omega) _ a3 v hpv (by omega)
      refine decide_eq_true ?_
      show at_ l u.parent ∈ anc (pTys b l) j
      rw [pTys_anc h j j (Nat.le_refl _) v hjv, h5]
      exact List.mem_map_of_mem hm
  · rw [pTys_anc h i i (Nat.le_refl _) k hx, List.length_map]
    exact a4
theorem Part.tysOk {b : Base} {l : List Int} (h : Part b l) : Code.tysOk (pTys b l) = true := tell_pos fun i t ht => by
  unfold pTys at ht
  rw [List.getElem?_map] at ht
  cases hx : l[i]? with
  | none => rw [hx] at ht; cases ht
  | some x =>
    obtain ⟨k, u, rfl, _, hu, _⟩ := h.at hx
    rw [hx, Option.map_some, partTy, tyOf_at hu, tpar_at hu] at ht
    cases ht
    exact h.tyAt hx hu
end Go.Proofs.Ytcbmakanokmdjaa.Code

/- plain: a base with some types alone is valid; siblings that stand further apart (mathematics). -/
set_option linter.unusedSimpArgs false
set_option linter.unusedVariables false
namespace Go.Proofs.Ytcbmakanokmdjaa.Code
open Go.Proofs.Ytcbmakanokmdjaa.Ev

theorem ses_at {b : Base} (h : validB b = true) {q : Nat} {x : Se} (hx : b.indexes[q]? = some x) : seOk b.types b.indexes q x = true := by
  simp only [validB, Bool.and_eq_true] at h
  exact tell_true.1 h.1.2 q x hx
theorem Part.ses {b : Base} {l : List Int} (h : Part b l) : sesOk (pTys b l) (partSes l b.indexes) = true := by
  have hn : (b.indexes.map (·.name)).Nodup := (nodup_take (·.name) b.indexes).1 fun i x hx => by
    have := ses_at h.valid hx
    simp only [seOk, Bool.and_eq_true, Bool.not_eq_true'] at this
    exact this.1.2
  have hn' : ((partSes l b.indexes).map (·.name)).Nodup := by
    unfold partSes
    rw [List.map_map]
    exact hn.sublist ((List.filter_sublist (l := b.indexes)).map (·.name))
  have hn2 := (nodup_take (·.name) (partSes l b.indexes)).2 hn'
  refine tell_pos fun i x' hx' => ?_
  have hm := List.mem_of_getElem? hx'
  unfold partSes at hm
  obtain ⟨x, hx, rfl⟩ := List.mem_map.1 hm
  obtain ⟨hxi, hxl⟩ := List.mem_filter.1 hx
  have hxl := of_decide_eq_true hxl
  obtain ⟨q, hq⟩ := List.getElem?_of_mem hxi
  have hs := ses_at h.valid hq
  simp only [seOk, Bool.and_eq_true, Bool.not_eq_true'] at hs ⊢
  refine ⟨⟨hs.1.1, hn2 i _ hx'⟩, ?_⟩
  obtain ⟨m, g1, g2, g3⟩ := at_some hxl
  obtain ⟨k, u, g4, g5, g6, _⟩ := h.at g3
  have e : fldOf (pTys b l) (partSe l x) = fldOf b.types x := by
    rw [g4] at g1 g3
    unfold fldOf partSe
    simp only [g4, g1, Int.toNat_natCast]
    rw [pTys_at g3 g6, g6]
    by_cases hf : 0 ≤ x.field
    · rw [if_pos ⟨by omega, hf⟩, if_pos ⟨by omega, hf⟩]; rfl
    · rw [if_neg (by omega), if_neg (by omega)]
  rw [e]; exact hs.2
theorem Part.validB {b : Base} {l : List Int} (h : Part b l) : Code.validB (partB b l) = true := by
  have hv := h.valid
  have h8 := (h.base.lens h.valid).1
  have h3 := (h.base.lens h.valid).2
  have hl := h.len
  have hpos := List.length_pos_iff.2 h.ne
  have hps := partSes_len l b.indexes
  simp only [Code.validB, areTys, Bool.and_eq_true, decide_eq_true_eq] at hv ⊢
  refine ⟨⟨⟨hv.1.1.1, ⟨?_, ?_⟩, h.tysOk⟩, h.ses⟩, ?_⟩
  · show (1 : Int) ≤ ((l.map (partTy b.types l)).length : Int)
    rw [List.length_map]; omega
  · show ((l.map (partTy b.types l)).length : Int) ≤ 8
    rw [List.length_map]; omega
  · show ((partSes l b.indexes).length : Int) ≤ 3
    omega
theorem Part.ok {b : Base} {l : List Int} (h : Part b l) : (partB b l).Ok := by
  have hl := h.len
  have h8 := (h.base.lens h.valid).1
  refine ⟨h.base.name, ?_, ?_, ?_, ?_⟩
  · show (l.map (partTy b.types l)).length < _
    rw [List.length_map]; omega
  · intro t ht
    obtain ⟨x, hx, rfl⟩ := List.mem_map.1 ht
    obtain ⟨i, hi⟩ := List.getElem?_of_mem hx
    obtain ⟨k, u, rfl, _, hu, _⟩ := h.at hi
    have := h.base.type u (List.mem_of_getElem? hu)
    unfold partTy
    rw [tyOf_at hu]
    exact ⟨this.name, this.fields, this.field⟩
  · have := partSes_len l b.indexes
    have h3 := (h.base.lens h.valid).2
    show (partSes l b.indexes).length < _
    omega
  · intro x hx
    have hx : x ∈ partSes l b.indexes := hx
    unfold partSes at hx
    obtain ⟨y, hy, rfl⟩ := List.mem_map.1 hx
    have := h.base.index y ((List.mem_filter.1 hy).1)
    exact ⟨this.name, this.sparse⟩

/-! siblings -/
theorem less_trans : ∀ x y z : List UInt8, Op.bytesLess x y = true → Op.bytesLess y z = true → Op.bytesLess x z = true
  | x, y, [], _, h2 => by cases y <;> simp [Op.bytesLess] at h2
  | [], _, c :: z, _, _ => by simp [Op.bytesLess]
  | a :: x, [], c :: z, h1, _ => by simp [Op.bytesLess] at h1
  | a :: x, b :: y, c :: z, h1, h2 => by
    simp only [Op.bytesLess, Bool.or_eq_true, decide_eq_true_eq, Bool.and_eq_true, beq_iff_eq] at h1 h2 ⊢
    rcases h1 with h1 | ⟨rfl, h1⟩ <;> rcases h2 with h2 | ⟨rfl, h2⟩
    · exact .inl (by rw [UInt8.lt_iff_toNat_lt] at *; omega)
    · exact .inl h1
    · exact .inl h2
    · exact .inr ⟨rfl, less_trans x y z h1 h2⟩
theorem inOrd_trans {t : Ty} {a c d : ByteArray} (h1 : inOrd t a c = true) (h2 : inOrd t c d = true) : inOrd t a d = true := by
  simp only [inOrd, Bool.or_eq_true, decide_eq_true_eq, Bool.and_eq_true] at *
  rcases h1 with (h1 | h1) | ⟨h1, h1'⟩
  · exact .inl (.inl h1)
  · rcases h2 with (h2 | h2) | ⟨h2, _⟩
    · exact .inl (.inl h2)
    · exact .inl (.inr (less_trans _ _ _ h1 h2))
    · rw [← h2]; exact .inl (.inr h1)
  · rcases h2 with (h2 | h2) | ⟨h2, h2'⟩
    · exact .inl (.inl h2)
    · rw [h1]; exact .inl (.inr h2)
    · exact .inr ⟨h1.trans h2, h1'⟩
theorem ord_trans {ts : List Ty} {f : List Item} {c : Int} {j : Nat} {y x : Item} (hy : f[j]? = some y) (h1 : ordOk ts f c y = true) (h2 : ordOk ts f (j : Int) x = true) : ordOk ts f c x = true := by
  simp only [ordOk, Bool.or_eq_true, decide_eq_true_eq, Bool.and_eq_true, typ_at hy, dat_at hy] at *
  rcases h1 with h1 | ⟨h1, h1'⟩ <;> rcases h2 with h2 | ⟨h2, h2'⟩
  · exact .inl (by omega)
  · exact .inl (by omega)
  · exact .inl (by omega)
  · exact .inr ⟨by omega, by rw [h2] at h1'; exact inOrd_trans h1' h2'⟩
/-- the child of an item's parent on an earlier way may stand ahead of it -/
theorem sib_far {b : Base} {f : List Item} (h : Right b f) {i : Nat} {x : Item} (hx : f[i]? = some x) : ∀ (n j : Nat), i - 1 - j = n → j < i → (par b.types f i < 0 ∨ par b.types f i ∈ pth b.types f j) → ∀ c, (pth b.types f j)[nOf b.types f i]? = some c → ordOk b.types f c x = true := by
  have hi := (List.getElem?_eq_some_iff.1 hx).1
  have hok := h.ok i x hi hx
  intro n
  induction n with
  | zero =>
    intro j hn hj _ c hc
    obtain ⟨i, rfl⟩ : ∃ i', i = i' + 1 := ⟨i - 1, by omega⟩
    obtain rfl : j = i := by omega
    simp only [okAt, Bool.and_eq_true] at hok
    have := hok.2
    have hw : (way b.types f (j + 1))[nOf b.types f (j + 1)]? = some c := hc
    simpa only [sibOk, hw] using this
  | succ n ih =>
    intro j hn hj hp c hc
    have hj1 : j + 1 < f.length := by omega
    obtain ⟨y, hy⟩ : ∃ y, f[j + 1]? = some y := ⟨_, List.getElem?_eq_getElem hj1⟩
    obtain ⟨hcut, hle⟩ := way_cut h hj1
    change pth b.types f (j + 1) = (pth b.types f j).take _ ++ _ at hcut
    change _ ≤ (pth b.types f j).length at hle
    have hb := par_lt b.types f i
    -- the parent is on the next way too
    have hp' : par b.types f i < 0 ∨ par b.types f i ∈ pth b.types f (j + 1) := by
      rcases hp with hp | hp
      · exact .inl hp
      · by_cases h0 : par b.types f i < 0
        · exact .inl h0
        · have hbp := pth_bound hp
          have hm := ok_par hx hok (by omega)
          obtain ⟨i', rfl⟩ : ∃ i', i = i' + 1 := ⟨i - 1, by omega⟩
          exact .inr (way_between (Nat.le_refl _) h.ok i' (by omega) _ hm (j + 1) (by omega) (by omega))
    have hS := ih (j + 1) (by omega) (by omega) hp'
    rcases Nat.lt_trichotomy (nOf b.types f i) (nOf b.types f (j + 1)) with hlt | heq | hgt
    · refine hS c ?_
      rw [hcut, List.getElem?_append_left (by rw [List.length_take]; omega), List.getElem?_take, if_pos hlt]; exact hc
    · have h1 : ordOk b.types f ((j + 1 : Nat) : Int) x = true := hS _ (by
        rw [hcut, List.getElem?_append_right (by rw [List.length_take]; omega), List.length_take, Nat.min_eq_left hle, heq]; simp)
      have h2 := h.ok (j + 1) y hj1 hy
      simp only [okAt, Bool.and_eq_true] at h2
      have h3 := h2.2
      have hw : (way b.types f (j + 1))[nOf b.types f (j + 1)]? = some c := by rw [← heq]; exact hc
      simp only [sibOk, hw] at h3
      exact ord_trans hy h3 h1
    · exfalso
      rcases hp' with h0 | hm
      · have : nOf b.types f i = 0 := by unfold nOf; rw [pthI_neg _ _ h0]; rfl
        omega
      · have hbp := pth_bound hm
        rcases hp with hp | hp
        · omega
        have hbj := pth_bound hp
        obtain ⟨q, hq⟩ : ∃ q : Nat, par b.types f i = (q : Int) := ⟨(par b.types f i).toNat, by omega⟩
        have hno : nOf b.types f i = (pth b.types f q).length := by unfold nOf; rw [hq, pthI_nat]
        rw [hq] at hm
        obtain ⟨m, hmm⟩ := List.getElem?_of_mem hm
        have ht : (pth b.types f (j + 1)).take (m + 1) = pth b.types f q := take_anc (pts b.types f) (good_pts b.types f) (by rw [pts_len]; exact Nat.le_refl _) (j + 1) (j + 1) (Nat.le_refl _) (by omega) m _ hmm
        have hml := (List.getElem?_eq_some_iff.1 hmm).1
        have hmn : (pth b.types f q).length = m + 1 := by rw [← ht, List.length_take]; omega
        rw [hcut] at hml hmm
        simp only [List.length_append, List.length_take, Nat.min_eq_left hle, List.length_singleton] at hml
        have e : m = nOf b.types f (j + 1) := by omega
        rw [List.getElem?_append_right (by rw [List.length_take]; omega), List.length_take, Nat.min_eq_left hle, e] at hmm
        simp at hmm
        omega
end Go.Proofs.Ytcbmakanokmdjaa.Code

/- plain: the items with some types alone are a forest (mathematics). -/
set_option linter.unusedSimpArgs false
set_option linter.unusedVariables false
set_option linter.unusedSectionVars false
namespace Go.Proofs.Ytcbmakanokmdjaa.Code
open Go.Proofs.Ytcbmakanokmdjaa.Ev

/-- how many items of a part stand ahead of a place -/
def cnt (l : List Int) (f : List Item) (i : Nat) : Nat := (partL l (f.take i)).length
theorem cnt_succ (l : List Int) {f : List Item} {i : Nat} {x : Item} (hx : f[i]? = some x) : cnt l f (i + 1) = cnt l f i + if x.type ∈ l then 1 else 0 := by
  unfold cnt
  rw [partL_step l hx, List.length_append]
  split <;> rfl
theorem cnt_mono (l : List Int) (f : List Item) : ∀ (n i : Nat), i + n ≤ f.length → cnt l f i ≤ cnt l f (i + n)
  | 0, i, _ => Nat.le_refl _
  | n + 1, i, h => by
    have h1 := cnt_mono l f n i (by omega)
    have h2 := cnt_succ l (f := f) (List.getElem?_eq_getElem (show i + n < f.length by omega))
    rw [show i + (n + 1) = i + n + 1 by omega]; omega
theorem cnt_lt {l : List Int} {f : List Item} {i j : Nat} {x : Item} (hx : f[i]? = some x) (hm : x.type ∈ l) (hij : i < j) (hj : j ≤ f.length) : cnt l f i < cnt l f j := by
  have h1 := cnt_succ l hx
  rw [if_pos hm] at h1
  have h2 := cnt_mono l f (j - (i + 1)) (i + 1) (by omega)
  rw [show i + 1 + (j - (i + 1)) = j by omega] at h2
  omega
theorem cnt_inv {l : List Int} {f : List Item} {i j : Nat} {x : Item} (hx : f[j]? = some x) (hm : x.type ∈ l) (hi : i ≤ f.length) (h : cnt l f i ≤ cnt l f j) : i ≤ j := by
  by_cases hc : j < i
  · have := cnt_lt hx hm hc hi; omega
  · omega
theorem part_at {l : List Int} {f : List Item} {i : Nat} {x : Item} (hx : f[i]? = some x) (hm : x.type ∈ l) : (partL l f)[cnt l f i]? = some (partI l x) := by
  have hi := (List.getElem?_eq_some_iff.1 hx).1
  have e : f = f.take i ++ x :: f.drop (i + 1) := by
    rw [List.getElem?_eq_getElem hi] at hx
    cases hx
    rw [List.getElem_cons_drop, List.take_append_drop]
  have h2 : partL l f = partL l (f.take i) ++ (partI l x :: partL l (f.drop (i + 1))) := by
    conv => lhs; rw [e]
    unfold partL
    rw [List.filter_append, List.map_append, List.filter_cons, if_pos (by simpa using hm), List.map_cons]
  rw [h2, List.getElem?_append_right (by unfold cnt; exact Nat.le_refl _)]
  simp [cnt]
theorem part_of {l : List Int} {f : List Item} : ∀ (n : Nat), n ≤ f.length → ∀ (j : Nat), j < cnt l f n → ∃ (i : Nat) (x : Item), i < n ∧ f[i]? = some x ∧ x.type ∈ l ∧ cnt l f i = j
  | 0, _, j, h => by simp [cnt, partL] at h
  | n + 1, hn, j, h => by
    obtain ⟨x, hx⟩ : ∃ x, f[n]? = some x := ⟨_, List.getElem?_eq_getElem (by omega)⟩
    rw [cnt_succ l hx] at h
    by_cases hlt : j < cnt l f n
    · obtain ⟨i, y, h1, h2⟩ := part_of n (by omega) j hlt
      exact ⟨i, y, by omega, h2⟩
    · by_cases hm : x.type ∈ l
      · rw [if_pos hm] at h
        exact ⟨n, x, by omega, hx, hm, by omega⟩
      · rw [if_neg hm] at h; omega
theorem cnt_all (l : List Int) (f : List Item) : cnt l f f.length = (partL l f).length := by unfold cnt; rw [List.take_length]
theorem lastTo_last {f : List Item} {p : Int} : ∀ (n : Nat), ∀ j : Nat, lastTo f p n < (j : Int) → j < n → typ f (j : Int) ≠ p
  | 0, j, _, h => by omega
  | n + 1, j, h, hj => by
    unfold lastTo at h
    split at h
    · omega
    · rename_i h1
      by_cases e : j = n
      · subst e; exact h1
      · exact lastTo_last n j h (by omega)
section
variable {b : Base} {l : List Int} {f : List Item} (hP : Part b l) (hR : Right b f)
include hP hR
theorem typ_part {i : Nat} {x : Item} (hx : f[i]? = some x) (hm : x.type ∈ l) : typ (partL l f) (cnt l f i : Int) = at_ l x.type := by
  rw [typ_at (part_at hx hm)]; rfl
/-- the parent of a part's item is one of the part -/
theorem par_in {i : Nat} {x : Item} (hx : f[i]? = some x) (hm : x.type ∈ l) {p : Nat} (hp : par b.types f i = (p : Int)) : ∃ y, f[p]? = some y ∧ y.type ∈ l := by
  have hi := (List.getElem?_eq_some_iff.1 hx).1
  obtain ⟨_, k, u, h0, hk, hkl, hu, _⟩ := hR.item hi
  rw [hx] at h0; cases h0
  rcases hR.par hx hk hu with ⟨h1, h2, _⟩ | ⟨q, h1, h2, _, h4, h5, h6⟩
  · omega
  · obtain rfl : q = p := by omega
    obtain ⟨y, hy⟩ : ∃ y, f[q]? = some y := ⟨_, List.getElem?_eq_getElem (by omega)⟩
    refine ⟨y, hy, ?_⟩
    rw [← typ_at hy, h6]
    obtain ⟨m, _, _, hm'⟩ := at_some hm
    rw [hk] at hm'
    rcases hP.par hm' hu with ⟨_, _, h7, _⟩ | ⟨p', m', _, _, h7, _, h8, _⟩
    · omega
    · rw [h7]; exact List.mem_of_getElem? h8
theorem par_part {i : Nat} {x : Item} (hx : f[i]? = some x) (hm : x.type ∈ l) : (par b.types f i = -1 ∧ par (pTys b l) (partL l f) (cnt l f i) = -1) ∨ ∃ p : Nat, par b.types f i = (p : Int) ∧ p < i ∧ par (pTys b l) (partL l f) (cnt l f i) = (cnt l f p : Int) ∧ cnt l f p < cnt l f i := by
  have hi := (List.getElem?_eq_some_iff.1 hx).1
  obtain ⟨_, k, u, h0, hk, hkl, hu, _⟩ := hR.item hi
  rw [hx] at h0; cases h0
  obtain ⟨m, g1, g2, g3⟩ := at_some hm
  rw [hk] at g3
  have htp : tpar (pTys b l) (typ (partL l f) (cnt l f i : Int)) = at_ l u.parent := by
    rw [typ_part hP hR hx hm, g1, tpar_at (pTys_at g3 hu)]; rfl
  rcases hR.par hx hk hu with ⟨h1, h2, hk0⟩ | ⟨p, h1, h2, _, h4, h5, h6⟩
  · refine .inl ⟨h2, ?_⟩
    unfold par
    rw [htp]
    rcases hP.par g3 hu with ⟨_, _, _, h8⟩ | ⟨p', m', _, h7, _⟩
    · rw [h8, if_pos (by omega)]
    · omega
  · obtain ⟨y, hy, hym⟩ := par_in hP hR hx hm h1
    have hlt := cnt_lt hy hym h2 (by omega)
    refine .inr ⟨p, h1, h2, ?_, hlt⟩
    rcases hP.par g3 hu with ⟨_, _, h7, _⟩ | ⟨p', m', _, _, h7, _, h8, h9⟩
    · omega
    · unfold par
      rw [htp, h9, if_neg (by omega)]
      refine lastTo_is ?_ _ hlt fun j' h10 h11 he => ?_
      · rw [typ_part hP hR hy hym, ← typ_at hy, h6, h9]
      · obtain ⟨j, z, e1, e2, e3, rfl⟩ := part_of (l := l) (f := f) i (by omega) j' h11
        rw [typ_part hP hR e2 e3] at he
        obtain ⟨q, q1, q2, q3⟩ := at_some e3
        rw [q1] at he
        obtain rfl : q = m' := by omega
        rw [h8] at q3
        have hjp : p < j := by
          by_cases hc : j ≤ p
          · by_cases e : j = p
            · subst e; omega
            · have := cnt_lt e2 e3 (show j < p by omega) (by omega); omega
          · omega
        have hpar : par b.types f i = lastTo f u.parent i := by unfold par; rw [typ_at hx, hk, tpar_at hu, if_neg (by omega)]
        refine lastTo_last i j (p := u.parent) (f := f) (by rw [← hpar, h1]; omega) e1 ?_
        rw [typ_at e2, h7]
        exact (Option.some.inj q3).symm
/-- the way of an item of the part -/
theorem pth_part : ∀ (n i : Nat), i ≤ n → ∀ x, f[i]? = some x → x.type ∈ l → pth (pTys b l) (partL l f) (cnt l f i) = (pth b.types f i).map fun a => (cnt l f a.toNat : Int) := by
  intro n
  induction n with
  | zero =>
    intro i hi x hx hm
    obtain rfl : i = 0 := by omega
    have hlt := (List.getElem?_eq_some_iff.1 hx).1
    have hc := (List.getElem?_eq_some_iff.1 (part_at hx hm)).1
    rcases par_part hP hR hx hm with ⟨h1, h2⟩ | ⟨p, _, h2, _⟩
    · rw [pth_eq _ _ hlt, pth_eq _ _ hc, h1, h2, pthI_neg _ _ (by omega), pthI_neg _ _ (by omega)]; simp
    · omega
  | succ n ih =>
    intro i hi x hx hm
    have hlt := (List.getElem?_eq_some_iff.1 hx).1
    have hc := (List.getElem?_eq_some_iff.1 (part_at hx hm)).1
    rcases par_part hP hR hx hm with ⟨h1, h2⟩ | ⟨p, h1, h2, h3, _⟩
    · rw [pth_eq _ _ hlt, pth_eq _ _ hc, h1, h2, pthI_neg _ _ (by omega), pthI_neg _ _ (by omega)]; simp
    · obtain ⟨y, hy, hym⟩ := par_in hP hR hx hm h1
      rw [pth_eq _ _ hlt, pth_eq _ _ hc, h1, h3, pthI_nat, pthI_nat, ih p (by omega) y hy hym]; simp
/-- all on the way of an item of the part are of the part -/
theorem pth_in : ∀ (n i : Nat), i ≤ n → ∀ x, f[i]? = some x → x.type ∈ l → ∀ a ∈ pth b.types f i, ∃ (q : Nat) (y : Item), a = (q : Int) ∧ f[q]? = some y ∧ y.type ∈ l := by
  intro n
  induction n with
  | zero =>
    intro i hi x hx hm a ha
    obtain rfl : i = 0 := by omega
    have hb := pth_bound ha
    exact ⟨0, x, by omega, hx, hm⟩
  | succ n ih =>
    intro i hi x hx hm a ha
    have hlt := (List.getElem?_eq_some_iff.1 hx).1
    rw [pth_eq _ _ hlt] at ha
    rcases List.mem_append.1 ha with ha | ha
    · by_cases h0 : par b.types f i < 0
      · rw [pthI_neg _ _ h0] at ha; cases ha
      · obtain ⟨p, hp⟩ : ∃ p : Nat, par b.types f i = (p : Int) := ⟨(par b.types f i).toNat, by omega⟩
        obtain ⟨y, hy, hym⟩ := par_in hP hR hx hm hp
        rw [hp, pthI_nat] at ha
        have := (par_lt b.types f i).2
        exact ih p (by omega) y hy hym a ha
    · simp at ha
      exact ⟨i, x, ha, hx, hm⟩
theorem ok_part {i : Nat} {x : Item} (hx : f[i]? = some x) (hm : x.type ∈ l) : okAt (pTys b l) (partL l f) (cnt l f i) (partI l x) = true := by
  have hi := (List.getElem?_eq_some_iff.1 hx).1
  obtain ⟨_, k, u, h0, hk, hkl, hu, _, hmin, hmax⟩ := hR.item hi
  rw [hx] at h0; cases h0
  obtain ⟨m, g1, g2, g3⟩ := at_some hm
  rw [hk] at g3
  have hpu := pTys_at g3 hu
  have hft : fits (pTys b l) (partI l x) = true := by
    rw [fits_at (x := partI l x) (k := m) (by rw [← g1]; rfl) hpu]
    show (decide (u.min ≤ (x.data.size : Int)) && decide ((x.data.size : Int) ≤ u.size)) = true
    rw [decide_eq_true hmin, decide_eq_true hmax]; rfl
  have htp : tpar (pTys b l) (partI l x).type = at_ l u.parent := by
    show tpar (pTys b l) (at_ l x.type) = _
    rw [g1, tpar_at hpu]; rfl
  -- the item of the part ahead
  have hprev : ∀ c, cnt l f i = c + 1 → ∃ (j : Nat) (z : Item), j < i ∧ f[j]? = some z ∧ z.type ∈ l ∧ cnt l f j = c ∧ way (pTys b l) (partL l f) (cnt l f i) = (pth b.types f j).map fun a => (cnt l f a.toNat : Int) := by
    intro c hc
    obtain ⟨j, z, e1, e2, e3, e4⟩ := part_of (l := l) (f := f) i (by omega) c (by omega)
    refine ⟨j, z, e1, e2, e3, e4, ?_⟩
    rw [hc, ← e4]
    exact pth_part hP hR j j (Nat.le_refl _) z e2 e3
  have hpc := par_part hP hR hx hm
  have hpar : (decide (tpar (pTys b l) (partI l x).type < 0) || tell (par (pTys b l) (partL l f) (cnt l f i) ∈ way (pTys b l) (partL l f) (cnt l f i))) = true := by
    rcases hpc with ⟨h1, h2⟩ | ⟨p, h1, h2, h3, h4⟩
    · rcases hP.par g3 hu with ⟨_, _, _, h8⟩ | ⟨p', m', _, hk0, h7, _⟩
      · rw [htp, h8]; rfl
      · rcases hR.par hx hk hu with ⟨_, _, h9⟩ | ⟨q, h9, _⟩
        · omega
        · omega
    · obtain ⟨j, z, e1, e2, e3, e4, e5⟩ := hprev (cnt l f i - 1) (by omega)
      obtain ⟨y, hy, hym⟩ := par_in hP hR hx hm h1
      have hpj : p ≤ j := cnt_inv e2 e3 (by omega) (by omega)
      have hmw := ok_par hx (hR.ok i x hi hx) (by omega)
      rw [h1] at hmw
      obtain ⟨i, rfl⟩ : ∃ i', i = i' + 1 := ⟨i - 1, by omega⟩
      have hmj := way_between (Nat.le_refl _) hR.ok i (by omega) _ hmw j (by omega) (by omega)
      rw [e5, h3, tell_pos (List.mem_map.2 ⟨_, hmj, by simp⟩)]; simp
  have hsib : sibOk (pTys b l) (partL l f) (cnt l f i) (partI l x) = true := by
    unfold sibOk
    cases hc : cnt l f i with
    | zero => simp [way, wayTo]
    | succ c =>
      obtain ⟨j, z, e1, e2, e3, e4, e5⟩ := hprev c hc
      rw [← hc, e5]
      have hno : nOf (pTys b l) (partL l f) (cnt l f i) = nOf b.types f i := by
        unfold nOf
        rcases hpc with ⟨h1, h2⟩ | ⟨p, h1, h2, h3, h4⟩
        · rw [h1, h2, pthI_neg _ _ (by omega), pthI_neg _ _ (by omega)]
        · obtain ⟨y, hy, hym⟩ := par_in hP hR hx hm h1
          rw [h1, h3, pthI_nat, pthI_nat, pth_part hP hR p p (Nat.le_refl _) y hy hym, List.length_map]
      rw [hno, List.getElem?_map]
      cases hn : (pth b.types f j)[nOf b.types f i]? with
      | none => rfl
      | some a =>
        simp only [Option.map_some]
        obtain ⟨q, y, rfl, hy, hym⟩ := pth_in hP hR j j (Nat.le_refl _) z e2 e3 a (List.mem_of_getElem? hn)
        have hfar := sib_far hR hx (i - 1 - j) j rfl e1 (by
          rcases hpc with ⟨h1, _⟩ | ⟨p, h1, h2, h3, h4⟩
          · exact .inl (by omega)
          · obtain ⟨y', hy', hym'⟩ := par_in hP hR hx hm h1
            have hpj : p ≤ j := cnt_inv e2 e3 (by omega) (by omega)
            have hmw := ok_par hx (hR.ok i x hi hx) (by omega)
            rw [h1] at hmw
            obtain ⟨i, rfl⟩ : ∃ i', i = i' + 1 := ⟨i - 1, by omega⟩
            exact .inr (by rw [h1]; exact way_between (Nat.le_refl _) hR.ok i (by omega) _ hmw j (by omega) (by omega))) _ hn
        simp only [Int.toNat_natCast]
        have hyt := typ_at (part_at hy hym)
        have hyd := dat_at (part_at hy hym)
        simp only [ordOk, Bool.or_eq_true, decide_eq_true_eq, Bool.and_eq_true, typ_at hy, dat_at hy, hyt, hyd] at hfar ⊢
        have hto : tyOf (pTys b l) (partI l x).type = upTy u (at_ l u.parent) := by
          show tyOf (pTys b l) (at_ l x.type) = _
          rw [g1, tyOf_at hpu]
        have hto' : tyOf b.types x.type = u := by rw [hk, tyOf_at hu]
        obtain ⟨m', q1, q2, q3⟩ := at_some hym
        rcases hfar with hfar | ⟨hfar, hin⟩
        · refine .inl ?_
          show at_ l y.type < at_ l x.type
          rw [q1, g1]
          by_cases hlt : m' < m
          · omega
          · exfalso
            by_cases e : m' = m
            · subst e; rw [g3] at q3; have := Option.some.inj q3; omega
            · have := parts_lt hP.parts m' m _ _ (by omega) g3 q3; omega
        · refine .inr ⟨?_, ?_⟩
          · show at_ l y.type = at_ l x.type
            rw [hfar]
          · rw [hto]
            rw [hto'] at hin
            exact hin
  rw [okAt, hft, hpar, hsib]; rfl
theorem Part.forest : forestOk (partB b l).types (partL l f) = true := by
  have hl := partL_len l f
  have h2 := hR.len
  show forestOk (pTys b l) (partL l f) = true
  unfold forestOk
  rw [decide_eq_true (by omega), Bool.true_and]
  refine tell_pos fun j y hy => ?_
  have hj := (List.getElem?_eq_some_iff.1 hy).1
  obtain ⟨i, x, e1, e2, e3, rfl⟩ := part_of (l := l) (f := f) f.length (Nat.le_refl _) j (by rw [cnt_all]; exact hj)
  rw [part_at e2 e3] at hy
  cases hy
  exact ok_part hP hR e2 e3
end
end Go.Proofs.Ytcbmakanokmdjaa.Code

/- The law PlainParts is true. -/
set_option linter.unusedSimpArgs false
set_option linter.unusedVariables false
namespace Go.Proofs.Ytcbmakanokmdjaa.Code
open Go.Proofs.Ytcbmakanokmdjaa.Ev

end Go.Proofs.Ytcbmakanokmdjaa.Code
namespace Go.Proofs.Ytcbmakanokmdjaa.Pure
open Go.Proofs.Ytcbmakanokmdjaa.Ev Go.Proofs.Ytcbmakanokmdjaa.Code
end Go.Proofs.Ytcbmakanokmdjaa.Pure

/- plain: items that are kept are a forest, if their parents are kept; Delete (mathematics). -/
set_option linter.unusedSimpArgs false
set_option linter.unusedVariables false
set_option linter.unusedSectionVars false
namespace Go.Proofs.Ytcbmakanokmdjaa.Code
open Go.Proofs.Ytcbmakanokmdjaa.Ev

/-- some items of a forest are kept, in their order -/
structure Kept (ts : List Ty) (f g : List Item) (keep : Nat → Prop) (pos : Nat → Nat) : Prop where
  at' : ∀ (k : Nat) (x : Item), keep k → f[k]? = some x → g[pos k]? = some x
  of : ∀ j : Nat, j < g.length → ∃ (k : Nat) (x : Item), keep k ∧ f[k]? = some x ∧ pos k = j
  lt : ∀ k k' : Nat, keep k → keep k' → k < k' → k' < f.length → pos k < pos k'
  par : ∀ (k p : Nat), keep k → k < f.length → Code.par ts f k = (p : Int) → keep p
section
variable {b : Base} {f g : List Item} {keep : Nat → Prop} {pos : Nat → Nat} (hR : Right b f) (hK : Kept b.types f g keep pos)
include hR hK
theorem Kept.inv {i j : Nat} (hi : keep i) (hj : keep j) (hil : i < f.length) (h : pos i ≤ pos j) : i ≤ j := by
  by_cases hc : j < i
  · have := hK.lt j i hj hi hc hil; omega
  · omega
theorem Kept.below {i : Nat} (hi : keep i) (hil : i < f.length) {j : Nat} (hj : j < pos i) : ∃ (k : Nat) (x : Item), k < i ∧ keep k ∧ f[k]? = some x ∧ pos k = j := by
  obtain ⟨x, hx⟩ : ∃ x, f[i]? = some x := ⟨_, List.getElem?_eq_getElem hil⟩
  have hg := (List.getElem?_eq_some_iff.1 (hK.at' i x hi hx)).1
  obtain ⟨k, y, h1, h2, h3⟩ := hK.of j (by omega)
  refine ⟨k, y, ?_, h1, h2, h3⟩
  by_cases hc : k < i
  · exact hc
  · by_cases e : k = i
    · subst e; omega
    · have := hK.lt i k hi h1 (by omega) (List.getElem?_eq_some_iff.1 h2).1; omega
theorem Kept.typ' {i : Nat} {x : Item} (hx : f[i]? = some x) (hi : keep i) : typ g (pos i : Int) = x.type := typ_at (hK.at' i x hi hx)
theorem Kept.par' {i : Nat} {x : Item} (hx : f[i]? = some x) (hi : keep i) : (Code.par b.types f i = -1 ∧ Code.par b.types g (pos i) = -1) ∨ ∃ p : Nat, Code.par b.types f i = (p : Int) ∧ p < i ∧ keep p ∧ Code.par b.types g (pos i) = (pos p : Int) ∧ pos p < pos i := by
  have hil := (List.getElem?_eq_some_iff.1 hx).1
  obtain ⟨_, k, u, h0, hk, hkl, hu, _⟩ := hR.item hil
  rw [hx] at h0; cases h0
  have htp : tpar b.types (typ g (pos i : Int)) = u.parent := by rw [Kept.typ' hR hK hx hi, hk, tpar_at hu]
  rcases hR.par hx hk hu with ⟨h1, h2, hk0⟩ | ⟨p, h1, h2, _, h4, h5, h6⟩
  · exact .inl ⟨h2, by unfold Code.par; rw [htp, if_pos h1]⟩
  · have hp := hK.par i p hi hil h1
    obtain ⟨y, hy⟩ : ∃ y, f[p]? = some y := ⟨_, List.getElem?_eq_getElem (by omega)⟩
    have hlt := hK.lt p i hp hi h2 hil
    refine .inr ⟨p, h1, h2, hp, ?_, hlt⟩
    unfold Code.par
    rw [htp, if_neg (by omega)]
    refine lastTo_is ?_ _ hlt fun j' h10 h11 he => ?_
    · rw [Kept.typ' hR hK hy hp, ← typ_at hy, h6]
    · obtain ⟨j, z, e1, e2, e3, rfl⟩ := Kept.below hR hK hi hil h11
      rw [Kept.typ' hR hK e3 e2] at he
      have hjp : p < j := by
        by_cases hc : j ≤ p
        · by_cases e : j = p
          · subst e; omega
          · have := hK.lt j p e2 hp (by omega) (by omega); omega
        · omega
      have hpar : Code.par b.types f i = lastTo f u.parent i := by unfold Code.par; rw [typ_at hx, hk, tpar_at hu, if_neg (by omega)]
      exact lastTo_last i j (p := u.parent) (f := f) (by rw [← hpar, h1]; omega) e1 (by rw [typ_at e3]; exact he)
theorem Kept.pth' : ∀ (n i : Nat), i ≤ n → ∀ x, f[i]? = some x → keep i → pth b.types g (pos i) = (pth b.types f i).map fun a => (pos a.toNat : Int) := by
  intro n
  induction n with
  | zero =>
    intro i hi x hx hm
    obtain rfl : i = 0 := by omega
    have hlt := (List.getElem?_eq_some_iff.1 hx).1
    have hc := (List.getElem?_eq_some_iff.1 (hK.at' 0 x hm hx)).1
    rcases Kept.par' hR hK hx hm with ⟨h1, h2⟩ | ⟨p, _, h2, _⟩
    · rw [pth_eq _ _ hlt, pth_eq _ _ hc, h1, h2, pthI_neg _ _ (by omega), pthI_neg _ _ (by omega)]; simp
    · omega
  | succ n ih =>
    intro i hi x hx hm
    have hlt := (List.getElem?_eq_some_iff.1 hx).1
    have hc := (List.getElem?_eq_some_iff.1 (hK.at' i x hm hx)).1
    rcases Kept.par' hR hK hx hm with ⟨h1, h2⟩ | ⟨p, h1, h2, h3, h4, _⟩
    · rw [pth_eq _ _ hlt, pth_eq _ _ hc, h1, h2, pthI_neg _ _ (by omega), pthI_neg _ _ (by omega)]; simp
    · obtain ⟨y, hy⟩ : ∃ y, f[p]? = some y := ⟨_, List.getElem?_eq_getElem (by omega)⟩
      rw [pth_eq _ _ hlt, pth_eq _ _ hc, h1, h4, pthI_nat, pthI_nat, ih p (by omega) y hy h3]; simp
theorem Kept.in : ∀ (n i : Nat), i ≤ n → i < f.length → keep i → ∀ a ∈ pth b.types f i, ∃ (q : Nat) (y : Item), a = (q : Int) ∧ f[q]? = some y ∧ keep q := by
  intro n
  induction n with
  | zero =>
    intro i hi hil hm a ha
    obtain rfl : i = 0 := by omega
    have hb := pth_bound ha
    exact ⟨0, _, by omega, List.getElem?_eq_getElem hil, hm⟩
  | succ n ih =>
    intro i hi hil hm a ha
    rw [pth_eq _ _ hil] at ha
    rcases List.mem_append.1 ha with ha | ha
    · by_cases h0 : Code.par b.types f i < 0
      · rw [pthI_neg _ _ h0] at ha; cases ha
      · obtain ⟨p, hp⟩ : ∃ p : Nat, Code.par b.types f i = (p : Int) := ⟨(Code.par b.types f i).toNat, by omega⟩
        have hpk := hK.par i p hm hil hp
        rw [hp, pthI_nat] at ha
        have := (par_lt b.types f i).2
        exact ih p (by omega) (by omega) hpk a ha
    · simp at ha
      exact ⟨i, _, ha, List.getElem?_eq_getElem hil, hm⟩
theorem Kept.ok {i : Nat} {x : Item} (hx : f[i]? = some x) (hm : keep i) : okAt b.types g (pos i) x = true := by
  have hi := (List.getElem?_eq_some_iff.1 hx).1
  have hok := hR.ok i x hi hx
  have hprev : ∀ c, pos i = c + 1 → ∃ (j : Nat) (z : Item), j < i ∧ keep j ∧ f[j]? = some z ∧ pos j = c ∧ way b.types g (pos i) = (pth b.types f j).map fun a => (pos a.toNat : Int) := by
    intro c hc
    obtain ⟨j, z, e1, e2, e3, e4⟩ := Kept.below hR hK hm hi (show c < pos i by omega)
    refine ⟨j, z, e1, e2, e3, e4, ?_⟩
    rw [hc, ← e4]
    exact Kept.pth' hR hK j j (Nat.le_refl _) z e3 e2
  have hpc := Kept.par' hR hK hx hm
  simp only [okAt, Bool.and_eq_true] at hok
  obtain ⟨⟨hft, hpk⟩, _⟩ := hok
  have hpar : (decide (tpar b.types x.type < 0) || tell (Code.par b.types g (pos i) ∈ way b.types g (pos i))) = true := by
    rcases hpc with ⟨h1, h2⟩ | ⟨p, h1, h2, h3, h4, h5⟩
    · have hno : Code.par b.types f i ∉ way b.types f i := fun h => by have := way_bound h; omega
      rw [tell_neg hno, Bool.or_false] at hpk
      rw [hpk]; rfl
    · obtain ⟨j, z, e1, e2, e3, e4, e5⟩ := hprev (pos i - 1) (by omega)
      have hpj : p ≤ j := Kept.inv hR hK h3 e2 (by omega) (by omega)
      have hmw := ok_par hx (hR.ok i x hi hx) (by omega)
      rw [h1] at hmw
      obtain ⟨i, rfl⟩ : ∃ i', i = i' + 1 := ⟨i - 1, by omega⟩
      have hmj := way_between (Nat.le_refl _) hR.ok i (by omega) _ hmw j (by omega) (by omega)
      rw [e5, h4, tell_pos (List.mem_map.2 ⟨_, hmj, by simp⟩)]; simp
  have hsib : sibOk b.types g (pos i) x = true := by
    unfold sibOk
    cases hc : pos i with
    | zero => simp [way, wayTo]
    | succ c =>
      obtain ⟨j, z, e1, e2, e3, e4, e5⟩ := hprev c hc
      rw [← hc, e5]
      have hno : nOf b.types g (pos i) = nOf b.types f i := by
        unfold nOf
        rcases hpc with ⟨h1, h2⟩ | ⟨p, h1, h2, h3, h4, h5⟩
        · rw [h1, h2, pthI_neg _ _ (by omega), pthI_neg _ _ (by omega)]
        · obtain ⟨y, hy⟩ : ∃ y, f[p]? = some y := ⟨_, List.getElem?_eq_getElem (by omega)⟩
          rw [h1, h4, pthI_nat, pthI_nat, Kept.pth' hR hK p p (Nat.le_refl _) y hy h3, List.length_map]
      rw [hno, List.getElem?_map]
      cases hn : (pth b.types f j)[nOf b.types f i]? with
      | none => rfl
      | some a =>
        simp only [Option.map_some]
        obtain ⟨q, y, rfl, hy, hym⟩ := Kept.in hR hK j j (Nat.le_refl _) (List.getElem?_eq_some_iff.1 e3).1 e2 a (List.mem_of_getElem? hn)
        have hfar := sib_far hR hx (i - 1 - j) j rfl e1 (by
          rcases hpc with ⟨h1, _⟩ | ⟨p, h1, h2, h3, h4, h5⟩
          · exact .inl (by omega)
          · have hpj : p ≤ j := Kept.inv hR hK h3 e2 (by omega) (by omega)
            have hmw := ok_par hx (hR.ok i x hi hx) (by omega)
            rw [h1] at hmw
            obtain ⟨i, rfl⟩ : ∃ i', i = i' + 1 := ⟨i - 1, by omega⟩
            exact .inr (by rw [h1]; exact way_between (Nat.le_refl _) hR.ok i (by omega) _ hmw j (by omega) (by omega))) _ hn
        simp only [Int.toNat_natCast]
        have hyt := typ_at (hK.at' q y hym hy)
        have hyd := dat_at (hK.at' q y hym hy)
        simp only [ordOk, typ_at hy, dat_at hy, hyt, hyd] at hfar ⊢
        exact hfar
  rw [okAt, hft, hpar, hsib]; rfl
theorem Kept.forest (hl : g.length ≤ 200) : Right b g := by
  refine ⟨hR.base, hR.valid, ?_⟩
  unfold forestOk
  rw [decide_eq_true (by omega), Bool.true_and]
  refine tell_pos fun j y hy => ?_
  have hj := (List.getElem?_eq_some_iff.1 hy).1
  obtain ⟨i, x, e1, e2, rfl⟩ := hK.of j hj
  rw [hK.at' i x e1 e2] at hy
  cases hy
  exact Kept.ok hR hK e2 e1
end
/-- what Delete leaves -/
theorem del_kept {b : Base} {f : List Item} (hR : Right b f) {i : Nat} (hi : i < f.length) : Kept b.types f (f.take i ++ f.drop (endOf b.types f i)) (fun k => k < i ∨ endOf b.types f i ≤ k) (fun k => if k < i then k else k - (endOf b.types f i - i)) := by
  have hend := endOf_is b.types f hi
  have hlt := hend.lt
  have hle := hend.le
  have ht : (f.take i).length = i := by rw [List.length_take]; omega
  refine ⟨fun k x hk hx => ?_, fun j hj => ?_, fun k k' hk hk' hkk hkl => ?_, fun k p hk hkl hp => ?_⟩
  · by_cases h : k < i
    · simp only [if_pos h]
      rw [List.getElem?_append_left (by omega), List.getElem?_take, if_pos h]; exact hx
    · simp only [if_neg h]
      rw [List.getElem?_append_right (by omega), ht, List.getElem?_drop]
      rw [show endOf b.types f i + (k - (endOf b.types f i - i) - i) = k by omega]; exact hx
  · rw [List.length_append, ht, List.length_drop] at hj
    by_cases h : j < i
    · exact ⟨j, f[j], .inl h, List.getElem?_eq_getElem (by omega), if_pos h⟩
    · refine ⟨j + (endOf b.types f i - i), _, .inr (by omega), List.getElem?_eq_getElem (by omega), ?_⟩
      show (if j + (endOf b.types f i - i) < i then _ else _) = j
      rw [if_neg (by omega)]; omega
  · show (if k < i then _ else _) < (if k' < i then _ else _)
    split <;> split <;> omega
  · -- the parent of what is kept is kept
    have hpl := par_lt b.types f k
    by_cases h : p < i ∨ endOf b.types f i ≤ p
    · exact h
    · exfalso
      have hke : endOf b.types f i ≤ k := by rcases hk with h | h <;> omega
      have hip : (i : Int) ∈ pth b.types f p := by
        by_cases e : p = i
        · subst e; exact pth_self _ _ _
        · exact hend.all p (by omega) (by omega)
      have hik : (i : Int) ∈ pth b.types f k := by
        rw [pth_eq _ _ hkl, hp, pthI_nat]
        exact List.mem_append_left _ hip
      exact hend.no (by omega) (way_between (Nat.le_refl _) hR.ok k hkl _ hik (endOf b.types f i) (by omega) hke)
theorem del_right {b : Base} {f : List Item} (hR : Right b f) {i : Nat} (hi : i < f.length) : Right b (f.take i ++ f.drop (endOf b.types f i)) := by
  have h2 := hR.len
  have hend := endOf_is b.types f hi
  have hlt := hend.lt
  have hle := hend.le
  exact Kept.forest hR (del_kept hR hi) (by rw [List.length_append, List.length_take, List.length_drop]; omega)
end Go.Proofs.Ytcbmakanokmdjaa.Code

/- A stand-in: what the logic seat's Yr holds is in Sn here. -/
set_option linter.unusedSimpArgs false
set_option linter.unusedVariables false

/- plain: the children of an item, and where a new one stands: mathematics. -/
set_option linter.unusedSimpArgs false
set_option linter.unusedVariables false
namespace Go.Proofs.Ytcbmakanokmdjaa.Code
open Go.Proofs.Ytcbmakanokmdjaa.Ev

/-- the children of an item (or the roots, for -1) up to a place -/
def chTo (b : Base) (f : List Item) (p : Int) (n : Nat) : List Nat := (List.range n).filter fun k => decide (par b.types f k = p)
def chl (b : Base) (f : List Item) (p : Int) : List Nat := chTo b f p f.length
theorem mem_chTo {b : Base} {f : List Item} {p : Int} {n k : Nat} : k ∈ chTo b f p n ↔ k < n ∧ par b.types f k = p := by
  simp [chTo]
theorem chTo_succ (b : Base) (f : List Item) (p : Int) (n : Nat) : chTo b f p (n + 1) = chTo b f p n ++ (if par b.types f n = p then [n] else []) := by
  unfold chTo
  rw [List.range_succ, List.filter_append]
  congr 1
  by_cases h : par b.types f n = p
  · rw [if_pos h]; simp [h]
  · rw [if_neg h]; simp [h]
theorem chTo_same {b : Base} {f : List Item} {p : Int} {m : Nat} : ∀ {n : Nat}, m ≤ n → (∀ j, m ≤ j → j < n → par b.types f j ≠ p) → chTo b f p n = chTo b f p m := by
  intro n
  induction n with
  | zero => intro h _; rw [show m = 0 by omega]
  | succ n ih =>
    intro h hj
    by_cases e : m = n + 1
    · rw [e]
    · rw [chTo_succ, if_neg (hj n (by omega) (by omega)), List.append_nil]
      exact ih (by omega) fun j h1 h2 => hj j h1 (by omega)
/-- where the children of an item end -/
def kidEnd (b : Base) (f : List Item) (p : Int) : Nat := if p < 0 then f.length else endOf b.types f p.toNat
theorem par_mem {b : Base} {f : List Item} {j : Nat} (hj : j < f.length) {p : Nat} (h : par b.types f j = (p : Int)) : (p : Int) ∈ pth b.types f j := by
  rw [pth_eq b.types f hj, h, pthI_nat]
  exact List.mem_append_left _ (pth_self ..)
theorem mem_par {b : Base} {f : List Item} {j : Nat} (hj : j < f.length) {a : Int} (h : a ∈ pth b.types f j) (hne : a ≠ (j : Int)) : 0 ≤ par b.types f j ∧ a ∈ pth b.types f (par b.types f j).toNat := by
  rw [pth_eq b.types f hj] at h
  rcases List.mem_append.1 h with h | h
  · by_cases h0 : par b.types f j < 0
    · rw [pthI_neg _ _ h0] at h; cases h
    · obtain ⟨q, hq⟩ : ∃ q : Nat, par b.types f j = (q : Int) := ⟨(par b.types f j).toNat, by omega⟩
      rw [hq, pthI_nat] at h
      exact ⟨by omega, by rw [hq]; exact h⟩
  · simp at h; exact absurd h hne
/-- the place behind a child's subtree: the next child, or the end -/
theorem next_child {b : Base} {f : List Item} (h : Right b f) {p : Int} (hp : -1 ≤ p) {k : Nat} (hk : k < f.length) (hkp : par b.types f k = p) :
    (∀ j, k < j → j < endOf b.types f k → par b.types f j ≠ p) ∧ (∀ e, e = endOf b.types f k → e < f.length → (p < 0 ∨ p ∈ pth b.types f e) → par b.types f e = p) := by
  have he := endOf_is b.types f hk
  have hpk := par_lt b.types f k
  refine ⟨fun j h1 h2 hc => ?_, fun e e0 hel hsub => ?_⟩
  · have hjl : j < f.length := by have := he.le; omega
    have hm := he.all j h1 h2
    obtain ⟨h3, h4⟩ := mem_par hjl hm (by omega)
    have := (pth_bound h4).2
    omega
  · subst e0
    have hno := he.no hel
    have hlt := he.lt
    have hpe := par_lt b.types f (endOf b.types f k)
    generalize endOf b.types f k = e at *
    apply Classical.byContradiction
    intro hc
    -- the parent is behind p
    have hq : p < par b.types f e := by
      rcases hsub with hs | hs
      · omega
      · obtain ⟨h3, h4⟩ := mem_par hel hs (by omega)
        have := (pth_bound h4).2
        omega
    obtain ⟨q, hqq⟩ : ∃ q : Nat, par b.types f e = (q : Int) := ⟨(par b.types f e).toNat, by omega⟩
    have hqe := par_mem hel hqq
    by_cases hqk : q ≤ k
    · have := way_between (Nat.le_refl _) h.ok e hel (q : Int) hqe k (by omega) (by omega)
      by_cases e1 : q = k
      · subst e1; exact hno hqe
      · obtain ⟨h3, h4⟩ := mem_par hk this (by omega)
        have := (pth_bound h4).2
        omega
    · have := he.all q (by omega) (by omega)
      exact hno (anc_trans _ hqe this)
theorem kid_first {b : Base} {f : List Item} (h : Right b f) {p : Int} (hp : -1 ≤ p) (hpl : p < (f.length : Int)) {s : Nat} (hs : (s : Int) = p + 1) : chTo b f p s = [] ∧ s ≤ kidEnd b f p ∧ (s < kidEnd b f p → par b.types f s = p) ∧ kidEnd b f p ≤ f.length := by
  have hno : chTo b f p s = [] := by
    rw [List.eq_nil_iff_forall_not_mem]
    intro k hk
    have := mem_chTo.1 hk
    have := par_lt b.types f k
    omega
  unfold kidEnd
  by_cases h0 : p < 0
  · rw [if_pos h0]
    have hs0 : s = 0 := by omega
    subst hs0
    refine ⟨hno, Nat.zero_le _, fun hl => ?_, Nat.le_refl _⟩
    have := par_lt b.types f 0
    omega
  · rw [if_neg h0]
    obtain ⟨q, rfl⟩ : ∃ q : Nat, p = (q : Int) := ⟨p.toNat, by omega⟩
    rw [Int.toNat_natCast]
    have he := endOf_is b.types f (i := q) (by omega)
    have hsq : s = q + 1 := by omega
    subst hsq
    refine ⟨hno, he.lt, fun hl => ?_, he.le⟩
    have hsl : q + 1 < f.length := by have := he.le; omega
    have hm := he.all (q + 1) (by omega) hl
    obtain ⟨h3, h4⟩ := mem_par hsl hm (by omega)
    have := (pth_bound h4).2
    have := par_lt b.types f (q + 1)
    omega
theorem kid_last {b : Base} {f : List Item} (h : Right b f) {p : Int} (hp : -1 ≤ p) (hpl : p < (f.length : Int)) : chl b f p = chTo b f p (kidEnd b f p) := by
  unfold chl kidEnd
  by_cases h0 : p < 0
  · rw [if_pos h0]
  · rw [if_neg h0]
    obtain ⟨q, rfl⟩ : ∃ q : Nat, p = (q : Int) := ⟨p.toNat, by omega⟩
    rw [Int.toNat_natCast]
    have he := endOf_is b.types f (i := q) (by omega)
    refine chTo_same he.le fun j h1 h2 hc => ?_
    have hm := par_mem h2 hc
    have hel : endOf b.types f q < f.length := by omega
    exact he.no hel (way_between (Nat.le_refl _) h.ok j h2 (q : Int) hm _ (by have := he.lt; omega) h1)
theorem kid_sub {b : Base} {f : List Item} {p : Int} (hp : -1 ≤ p) (hpl : p < (f.length : Int)) {e : Nat} (h1 : p < (e : Int)) (h2 : e < kidEnd b f p) : p < 0 ∨ p ∈ pth b.types f e := by
  unfold kidEnd at h2
  by_cases h0 : p < 0
  · exact .inl h0
  · rw [if_neg h0] at h2
    obtain ⟨q, rfl⟩ : ∃ q : Nat, p = (q : Int) := ⟨p.toNat, by omega⟩
    rw [Int.toNat_natCast] at h2
    exact .inr ((endOf_is b.types f (i := q) (by omega)).all e (by omega) h2)
theorem kid_end_le {b : Base} {f : List Item} (h : Right b f) {p : Int} (hp : -1 ≤ p) (hpl : p < (f.length : Int)) {k : Nat} (hk : k < kidEnd b f p) (hkp : par b.types f k = p) : endOf b.types f k ≤ kidEnd b f p := by
  have hkl : k < f.length := by
    have := (kid_first h hp hpl (s := (p + 1).toNat) (by omega)).2.2.2
    omega
  have he := endOf_is b.types f hkl
  unfold kidEnd at *
  by_cases h0 : p < 0
  · rw [if_pos h0]; exact he.le
  · rw [if_neg h0] at hk ⊢
    obtain ⟨q, rfl⟩ : ∃ q : Nat, p = (q : Int) := ⟨p.toNat, by omega⟩
    rw [Int.toNat_natCast] at *
    have hq := endOf_is b.types f (i := q) (by omega)
    apply Classical.byContradiction
    intro hc
    have hql : endOf b.types f q < f.length := by have := he.le; omega
    have hm := he.all (endOf b.types f q) hk (by omega)
    exact hq.no hql (anc_trans _ hm (par_mem hkl hkp))
/-- a step of the program's walk over children -/
theorem kid_step {b : Base} {f : List Item} (h : Right b f) {p : Int} (hp : -1 ≤ p) (hpl : p < (f.length : Int)) {k : Nat} (hk : k < kidEnd b f p) (hkp : par b.types f k = p) :
    k < endOf b.types f k ∧ endOf b.types f k ≤ kidEnd b f p ∧ (endOf b.types f k < kidEnd b f p → par b.types f (endOf b.types f k) = p) ∧ chTo b f p (endOf b.types f k) = chTo b f p k ++ [k] := by
  have hle := (kid_first h hp hpl (s := (p + 1).toNat) (by omega)).2.2.2
  have hkl : k < f.length := by omega
  have he := endOf_is b.types f hkl
  have h1 := kid_end_le h hp hpl hk hkp
  obtain ⟨h2, h3⟩ := next_child h hp hkl hkp
  have hpk := par_lt b.types f k
  have hlt := he.lt
  refine ⟨hlt, h1, fun h4 => h3 _ rfl (by omega) (kid_sub hp hpl (by omega) h4), ?_⟩
  rw [chTo_same (m := k + 1) (by omega) fun j a1 a2 => h2 j (by omega) a2, chTo_succ, if_pos hkp]
/- where a new one stands -/
def kKey (b : Base) (f : List Item) (t : Int) (k : Nat) : ByteArray := keyOf (tyOf b.types t) (dat f (k : Int))
def front (b : Base) (f : List Item) (t : Int) (s : ByteArray) (k : Nat) : Bool :=
  decide (typ f (k : Int) < t) || (decide (typ f (k : Int) = t) && (bLt (kKey b f t k) s || (decide (kKey b f t k = s) && (tyOf b.types t).last)))
theorem front_mono {b : Base} {f : List Item} (h : Right b f) {p : Int} {k k' : Nat} (hkk : k < k') (hk' : k' < f.length) (h1 : par b.types f k = p) (h2 : par b.types f k' = p) {t : Int} {s : ByteArray} (hf : front b f t s k' = true) : front b f t s k = true := by
  obtain ⟨x, hx⟩ : ∃ x, f[k']? = some x := ⟨_, List.getElem?_eq_getElem hk'⟩
  have hkl : k < f.length := by omega
  have hpth := pth_eq b.types f hkl
  have hcond : par b.types f k' < 0 ∨ par b.types f k' ∈ pth b.types f k := by
    by_cases h0 : par b.types f k' < 0
    · exact .inl h0
    · obtain ⟨q, hq⟩ : ∃ q : Nat, p = (q : Int) := ⟨p.toNat, by omega⟩
      rw [h2, hq]
      exact .inr (par_mem hkl (by rw [h1, hq]))
  have hc : (pth b.types f k)[nOf b.types f k']? = some (k : Int) := by
    unfold nOf
    rw [hpth, h1, h2]
    simp
  have ho := sib_far h hx (k' - 1 - k) k rfl hkk hcond (k : Int) hc
  simp only [front, ordOk, typ_at hx, Bool.or_eq_true, Bool.and_eq_true, decide_eq_true_eq] at hf ho ⊢
  rcases ho with ho | ⟨ho, hi⟩
  · rcases hf with hf | ⟨hf, _⟩
    · exact .inl (by omega)
    · exact .inl (by omega)
  · rcases hf with hf | ⟨hf, hs⟩
    · exact .inl (by omega)
    · refine .inr ⟨by omega, ?_⟩
      have hkx : kKey b f t k' = keyOf (tyOf b.types t) x.data := by unfold kKey; rw [dat_at hx]
      have hkk : kKey b f t k = keyOf (tyOf b.types t) (dat f (k : Int)) := rfl
      rw [hf] at hi
      simp only [inOrd, Bool.or_eq_true, Bool.and_eq_true, decide_eq_true_eq] at hi
      rw [← hkx, ← hkk] at hi
      rcases hi with (hi | hi) | ⟨hi, _⟩
      · have e1 : kKey b f t k = kKey b f t k' := by
          unfold kKey keyOf; rw [if_pos hi, if_pos hi]
        rw [e1]; exact hs
      · rcases hs with hs | ⟨hs, _⟩
        · exact .inl (less_trans _ _ _ hi hs)
        · exact .inl (by rw [← hs]; exact hi)
      · rw [hi]; exact hs
def atP (b : Base) (f : List Item) (t : Int) (s : ByteArray) (st : Nat × Bool) (k : Nat) : Nat × Bool :=
  ((if (st.2 || !front b f t s k) = true then st.1 else endOf b.types f k), st.2 || !front b f t s k)
def atD (b : Base) (f : List Item) (t : Int) (s : ByteArray) (at' k : Nat) : Nat := if front b f t s k = true then endOf b.types f k else at'
theorem plAt_behind (b : Base) (f : List Item) (t : Int) (s : ByteArray) : ∀ (l : List Nat) (a : Nat), (l.foldl (atP b f t s) (a, true)).1 = a
  | [], a => rfl
  | k :: l, a => by
    rw [List.foldl_cons, show atP b f t s (a, true) k = (a, true) by simp [atP]]
    exact plAt_behind b f t s l a
theorem plAt_none (b : Base) (f : List Item) (t : Int) (s : ByteArray) : ∀ (l : List Nat) (a : Nat), (∀ k ∈ l, front b f t s k = false) → l.foldl (atD b f t s) a = a
  | [], a, _ => rfl
  | k :: l, a, h => by
    rw [List.foldl_cons, show atD b f t s a k = a by simp [atD, h k (List.mem_cons_self ..)]]
    exact plAt_none b f t s l a fun j hj => h j (List.mem_cons_of_mem _ hj)
theorem plAt_same (b : Base) (f : List Item) (t : Int) (s : ByteArray) : ∀ (l : List Nat) (a : Nat), l.Pairwise (fun k k' => front b f t s k' = true → front b f t s k = true) → (l.foldl (atP b f t s) (a, false)).1 = l.foldl (atD b f t s) a
  | [], a, _ => rfl
  | k :: l, a, h => by
    rw [List.pairwise_cons] at h
    rw [List.foldl_cons, List.foldl_cons]
    cases hf : front b f t s k with
    | true =>
      rw [show atP b f t s (a, false) k = (endOf b.types f k, false) by simp [atP, hf], show atD b f t s a k = endOf b.types f k by simp [atD, hf]]
      exact plAt_same b f t s l _ h.2
    | false =>
      rw [show atP b f t s (a, false) k = (a, true) by simp [atP, hf], show atD b f t s a k = a by simp [atD, hf], plAt_behind, plAt_none]
      intro j hj
      cases hc : front b f t s j with
      | false => rfl
      | true => rw [h.1 j hj hc] at hf; cases hf
theorem chl_rise (b : Base) (f : List Item) (p : Int) : (chl b f p).Pairwise (· < ·) := by
  unfold chl chTo
  exact List.Pairwise.filter _ List.pairwise_lt_range
theorem chl_mono {b : Base} {f : List Item} (h : Right b f) (p t : Int) (s : ByteArray) : (chl b f p).Pairwise (fun k k' => front b f t s k' = true → front b f t s k = true) := by
  refine List.pairwise_iff_getElem.2 fun i j hi hj hij hf => ?_
  have hlt := List.pairwise_iff_getElem.1 (chl_rise b f p) i j hi hj hij
  have m1 := mem_chTo.1 (List.getElem_mem hi)
  have m2 := mem_chTo.1 (List.getElem_mem hj)
  exact front_mono h hlt m2.1 m1.2 m2.2 hf
end Go.Proofs.Ytcbmakanokmdjaa.Code

/- plain: the children of an item, and where a new one stands, of the program. -/
set_option linter.unusedSimpArgs false
set_option linter.unusedVariables false
namespace Go.Proofs.Ytcbmakanokmdjaa.Code
open Go.Proofs.Ytcbmakanokmdjaa.Ev

def nI (l : List Nat) : List Int := l.map fun (k : Nat) => (k : Int)
theorem nI_at {l : List Nat} {i k : Nat} (h : l[i]? = some k) : (nI l)[i]? = some (k : Int) := by simp [nI, h]
theorem nI_app (a b : List Nat) : nI (a ++ b) = nI a ++ nI b := by simp [nI]
theorem chTo_len (b : Base) (f : List Item) (p : Int) (n : Nat) : (chTo b f p n).length ≤ n := by
  unfold chTo
  have := List.length_filter_le (fun k => decide (par b.types f k = p)) (List.range n)
  simpa using this
theorem out_num {K X : Heap} {rv : AV} {l : List Int} (hO : Out K.length 1 3 X rv (l.map rI)) (hl : l.length ≤ 1000) (r : Int) : ∃ rv1 X1, appK 3 1 8 false (K ++ (X ++ [⟨0, true, 3, 1, [[.int .i64 r]]⟩])) (some rv) (some (.ref (K.length + X.length) 0 1 0 1)) = some (rv1, K ++ X1) ∧ rv1.isTup = false ∧ Out K.length 1 3 X1 rv1 ((l ++ [r]).map rI) := by
  obtain ⟨rv1, X1, a1, t1, O1⟩ := (hO.more [⟨0, true, 3, 1, [[.int .i64 r]]⟩]).app K rfl 8 (.ref (K.length + X.length) 0 1 0 1) [rI r] (by simp [srcRows, rowsOf, curBlk, ← List.append_assoc, rI]) (by simp [rI]) (by simp [reach]; omega)
  exact ⟨rv1, X1, a1, t1, by simpa using O1⟩
theorem f73 (b : Base) (f : List Item) (hr : Right b f) (p : Int) (hp : -1 ≤ p) (hpl : p < (f.length : Int)) (H : Heap) : cal (evC cprog) true 73 [eBase b, eItems f, .int .i64 p] H = some (eIs (nI (chl b f p)), H) := by
  rw [cal_of at73]
  have hfl := hr.len
  have hlen := (sItems [] f).len
  simp only [List.length_map] at hlen
  obtain ⟨K, hK⟩ : ∃ K : Heap, K = H ++ [bBase b] := ⟨_, rfl⟩
  have kt : ∀ Z, (K ++ Z).take H.length = H := fun Z => by rw [hK]; simp
  have kl : K.length = H.length + 1 := by rw [hK]; simp
  have kb : ∀ Z, (K ++ Z)[H.length]? = some (bBase b) := fun Z => by rw [hK]; simp
  obtain ⟨s, hs⟩ : ∃ s : Nat, (s : Int) = p + 1 := ⟨(p + 1).toNat, by omega⟩
  obtain ⟨k1, k2, k3, k4⟩ := kid_first hr hp hpl hs
  have L := fun (st : St) (hE : keepEnv st.1 [1, 3, 8, 9, 10] = [(1, eItems f), (3, .ptr H.length 0 4 0 0), (8, .int .i64 ((kidEnd b f p : Nat) : Int)), (9, .nils), (10, .int .i64 (s : Int))]) (hH : st.2 = K) (z : Option (CX × St)) (hz : itLim (evCode (evC cprog) itLim c73_l0) st = z) =>
    loop_rule (σ := Nat × Heap × AV) (m := [1, 3, 8, 9, 10]) (env := fun x => [(1, eItems f), (3, .ptr H.length 0 4 0 0), (8, .int .i64 ((kidEnd b f p : Nat) : Int)), (9, x.2.2), (10, .int .i64 (x.1 : Int))]) (hp := fun x => K ++ x.2.1)
    (P := fun _ r => ∃ T X rv, r = (.exit 0, T, K ++ X) ∧ keepEnv T [9] = [(9, rv)] ∧ Out K.length 1 3 X rv ((nI (chl b f p)).map rI))
    (mu := fun x => kidEnd b f p - x.1) (I := fun x => x.1 ≤ kidEnd b f p ∧ (x.1 < kidEnd b f p → par b.types f x.1 = p) ∧ Out K.length 1 3 x.2.1 x.2.2 ((nI (chTo b f p x.1)).map rI)) (evCode (evC cprog) itLim c73_l0) (by
      intro ⟨k, X, rv⟩ ⟨hk, hkp, hO⟩ E hE
      simp only at hk hkp hO hE ⊢
      by_cases hlt : k < kidEnd b f p
      · have hkl : k < f.length := by omega
        obtain ⟨s1, s2, s3, s4⟩ := kid_step hr hp hpl hlt (hkp hlt)
        have hii : (k : Int) < ((kidEnd b f p : Nat) : Int) := by omega
        have h63 := fun H => f40 b f hr k hkl H
        have hcl := chTo_len b f p k
        obtain ⟨rv1, X1, a1, t1, O1⟩ := out_num hO (by simp [nI]; omega) (k : Int)
        rw [show nI (chTo b f p k) ++ [(k : Int)] = nI (chTo b f p (endOf b.types f k)) by rw [s4, nI_app]; rfl] at O1
        simp only [bBase] at kb
        simp only [eBase] at h63
        generalize kidEnd b f p = e at *
        simp only [c73_l0, hE, hii, kb, a1, t1, h63, evX, Int.reduceEq, Int.reduceLT, Int.reduceLE, Nat.reduceMul, Nat.reduceMod, evW, fn_eq, evR, Nat.reduceAdd, Nat.reduceLT, Nat.reduceLeDiff, reduceIte, Nat.reduceEqDiff, reduceCtorEq, argEnv, eq_self, if_true, if_false]
        repeat' ((first | rw [guardK_cases] | rw [condK_bool] | rw [guardD_cases]); split <;> simp only [c73_l0, hE, hii, kb, a1, t1, h63, evX, Int.reduceEq, Int.reduceLT, Int.reduceLE, Nat.reduceMul, Nat.reduceMod, evW, evR, Nat.reduceAdd, Nat.reduceLT, Nat.reduceLeDiff, reduceIte, Nat.reduceEqDiff, reduceCtorEq, argEnv, eq_self, if_true, if_false, *])
        exact q_next (endOf b.types f k, X1, rv1) (by rfl) rfl ⟨s2, s3, O1⟩ (by simp only; omega) fun r h => h
      · have hii : ¬ (k : Int) < ((kidEnd b f p : Nat) : Int) := by omega
        have hke : k = kidEnd b f p := by omega
        rw [hke, ← kid_last hr hp hpl] at hO
        simp only [c73_l0, hE, hii, evX, Int.reduceEq, Int.reduceLT, Int.reduceLE, Nat.reduceMul, Nat.reduceMod, evW, fn_eq, evR, Nat.reduceAdd, Nat.reduceLT, Nat.reduceLeDiff, reduceIte, Nat.reduceEqDiff, reduceCtorEq, argEnv, eq_self, if_true, if_false]
        repeat' ((first | rw [guardK_cases] | rw [condK_bool] | rw [guardD_cases]); split <;> simp only [c73_l0, hE, hii, evX, Int.reduceEq, Int.reduceLT, Int.reduceLE, Nat.reduceMul, Nat.reduceMod, evW, evR, Nat.reduceAdd, Nat.reduceLT, Nat.reduceLeDiff, reduceIte, Nat.reduceEqDiff, reduceCtorEq, argEnv, eq_self, if_true, if_false, *])
        exact q_exit ⟨_, X, rv, rfl, by rfl, hO⟩) (s, [], .nils) st ⟨k2, k3, by rw [k1]; exact .nils ..⟩ hE (by simpa using hH) z hz
  by_cases h0 : (0 : Int) ≤ p
  · obtain ⟨q, rfl⟩ : ∃ q : Nat, p = (q : Int) := ⟨p.toNat, by omega⟩
    have h63 := fun H => f40 b f hr q (by omega) H
    have hke : kidEnd b f (q : Int) = endOf b.types f q := by unfold kidEnd; rw [if_neg (by omega)]; rfl
    rw [hke] at L
    have hw : IntKind.i64.wrap ((q : Int) + 1) = (s : Int) := by rw [wrap_i64 (by omega) (by omega)]; omega
    simp only [bBase] at kb hK
    simp only [eBase] at h63
    simp only [c73, eBase, hlen, h0, hw, h63, evX, Int.reduceEq, Int.reduceLT, Int.reduceLE, Nat.reduceMul, Nat.reduceMod, evW, fn_eq, evR, Nat.reduceAdd, Nat.reduceLT, Nat.reduceLeDiff, reduceIte, Nat.reduceEqDiff, reduceCtorEq, argEnv, eq_self, if_true, if_false]
    repeat' ((first | rw [guardK_cases] | rw [condK_bool] | rw [guardD_cases]); split <;> simp only [c73, eBase, hlen, h0, hw, h63, evX, Int.reduceEq, Int.reduceLT, Int.reduceLE, Nat.reduceMul, Nat.reduceMod, evW, evR, Nat.reduceAdd, Nat.reduceLT, Nat.reduceLeDiff, reduceIte, Nat.reduceEqDiff, reduceCtorEq, argEnv, eq_self, if_true, if_false, *])
    generalize hz : itLim _ _ = z
    obtain ⟨_, rfl, T, X, rv, rfl, hT, hO⟩ := L _ (by rfl) (by rw [hK]) z hz
    clear hz L
    obtain ⟨ids, g1, g2, g3⟩ := fz_out' hO K rfl (plain_ints _)
    have hsc := out_tup hO
    have ht := kt X
    generalize K ++ X = Z at *
    simp only [hT, hsc, evX, Int.reduceEq, Int.reduceLT, Int.reduceLE, Nat.reduceMul, Nat.reduceMod, evW, fn_eq, evR, Nat.reduceAdd, Nat.reduceLT, Nat.reduceLeDiff, reduceIte, Nat.reduceEqDiff, reduceCtorEq, argEnv, eq_self, if_true, if_false]
    repeat' ((first | rw [guardK_cases] | rw [condK_bool] | rw [guardD_cases]); split <;> simp only [hT, hsc, evX, Int.reduceEq, Int.reduceLT, Int.reduceLE, Nat.reduceMul, Nat.reduceMod, evW, evR, Nat.reduceAdd, Nat.reduceLT, Nat.reduceLeDiff, reduceIte, Nat.reduceEqDiff, reduceCtorEq, argEnv, eq_self, if_true, if_false, *])
    exact frz_one g1 g3 ht (fun k hk => by have := g2 k hk; omega)
  · have hke : kidEnd b f p = f.length := by unfold kidEnd; rw [if_pos (by omega)]
    have hs0 : s = 0 := by omega
    subst hs0
    rw [hke] at L
    simp only [bBase] at kb hK
    simp only [c73, eBase, hlen, h0, evX, Int.reduceEq, Int.reduceLT, Int.reduceLE, Nat.reduceMul, Nat.reduceMod, evW, fn_eq, evR, Nat.reduceAdd, Nat.reduceLT, Nat.reduceLeDiff, reduceIte, Nat.reduceEqDiff, reduceCtorEq, argEnv, eq_self, if_true, if_false]
    repeat' ((first | rw [guardK_cases] | rw [condK_bool] | rw [guardD_cases]); split <;> simp only [c73, eBase, hlen, h0, evX, Int.reduceEq, Int.reduceLT, Int.reduceLE, Nat.reduceMul, Nat.reduceMod, evW, evR, Nat.reduceAdd, Nat.reduceLT, Nat.reduceLeDiff, reduceIte, Nat.reduceEqDiff, reduceCtorEq, argEnv, eq_self, if_true, if_false, *])
    generalize hz : itLim _ _ = z
    obtain ⟨_, rfl, T, X, rv, rfl, hT, hO⟩ := L _ (by rfl) (by rw [hK]) z hz
    clear hz L
    obtain ⟨ids, g1, g2, g3⟩ := fz_out' hO K rfl (plain_ints _)
    have hsc := out_tup hO
    have ht := kt X
    generalize K ++ X = Z at *
    simp only [hT, hsc, evX, Int.reduceEq, Int.reduceLT, Int.reduceLE, Nat.reduceMul, Nat.reduceMod, evW, fn_eq, evR, Nat.reduceAdd, Nat.reduceLT, Nat.reduceLeDiff, reduceIte, Nat.reduceEqDiff, reduceCtorEq, argEnv, eq_self, if_true, if_false]
    repeat' ((first | rw [guardK_cases] | rw [condK_bool] | rw [guardD_cases]); split <;> simp only [hT, hsc, evX, Int.reduceEq, Int.reduceLT, Int.reduceLE, Nat.reduceMul, Nat.reduceMod, evW, evR, Nat.reduceAdd, Nat.reduceLT, Nat.reduceLeDiff, reduceIte, Nat.reduceEqDiff, reduceCtorEq, argEnv, eq_self, if_true, if_false, *])
    exact frz_one g1 g3 ht (fun k hk => by have := g2 k hk; omega)
end Go.Proofs.Ytcbmakanokmdjaa.Code

/- plain: where a new item stands, of the program: the walk. -/
set_option linter.unusedSimpArgs false
set_option linter.unusedVariables false
namespace Go.Proofs.Ytcbmakanokmdjaa.Code
open Go.Proofs.Ytcbmakanokmdjaa.Ev

def argOk (b : Base) (f : List Item) (p t : Int) (d : ByteArray) : Bool := decide (-1 ≤ p) && decide (p < (f.length : Int)) && fits b.types ⟨t, d⟩ && (if p < 0 then decide (t = 0) else decide (tpar b.types t = typ f p))
def isTwin (b : Base) (f : List Item) (t : Int) (s : ByteArray) (k : Nat) : Bool := decide (typ f (k : Int) = t) && ((tyOf b.types t).unique && decide (kKey b f t k = s))
def twice (b : Base) (f : List Item) (p t : Int) (s : ByteArray) : Bool := (chl b f p).any (isTwin b f t s)
noncomputable def placeE (b : Base) (f : List Item) (p t : Int) (d : ByteArray) : Int :=
  if errF b f [] = 0 then (if argOk b f p t d = true then (if twice b f p t (keyOf (tyOf b.types t) d) = true then 90 else 0) else 2) else errF b f []
noncomputable def placeN (b : Base) (f : List Item) (p t : Int) (d : ByteArray) : Nat := (chl b f p).foldl (atD b f t (keyOf (tyOf b.types t) d)) (p + 1).toNat
noncomputable def placeR (b : Base) (f : List Item) (p t : Int) (d : ByteArray) : Int := if placeE b f p t d = 0 then (placeN b f p t d : Int) else 0
def stP (b : Base) (f : List Item) (p t : Int) (s : ByteArray) (i : Nat) : Nat × Bool := ((chl b f p).take i).foldl (atP b f t s) ((p + 1).toNat, false)
theorem stP_step (b : Base) (f : List Item) (p t : Int) (s : ByteArray) {i k : Nat} (hk : (chl b f p)[i]? = some k) : stP b f p t s (i + 1) = atP b f t s (stP b f p t s i) k := by
  unfold stP
  rw [List.take_add_one, hk, Option.toList_some, List.foldl_append]; rfl
set_option maxHeartbeats 4000000 in
theorem l50 (b : Base) (f : List Item) (hr : Right b f) (p : Int) (ti : Nat) (ty : Ty) (hty : b.types[ti]? = some ty) (hok : tyOk ty = true) (s : ByteArray) (H : Heap) (n m : Nat) (hn : ∀ Z, (H ++ Z)[n]? = some (bBase b)) (hm : ∀ Z, (H ++ Z)[m]? = some (bTy ty)) (st : St)
    (hE : keepEnv st.1 [1, 3, 5, 13, 14, 15, 16, 83, 84, 85] = [(1, eItems f), (3, .int .i64 (ti : Int)), (5, .ptr n 0 4 0 0), (13, .ptr m 0 8 0 0), (14, .int .i64 (((p + 1).toNat : Nat) : Int)), (15, .str s), (16, .bool false), (83, eIs (nI (chl b f p))), (84, .int .i64 ((chl b f p).length : Int)), (85, .int .i64 0)]) (hH : st.2 = H)
    (z : Option (CX × St)) (hz : itLim (evCode (evC cprog) itLim c50_l0) st = z) :
    (twice b f p (ti : Int) s = false ∧ ∃ T G, z = some (.exit 1, T, H ++ G) ∧ keepEnv T [14] = [(14, .int .i64 ((((chl b f p).foldl (atP b f (ti : Int) s) ((p + 1).toNat, false)).1 : Nat) : Int))]) ∨
    (twice b f p (ti : Int) s = true ∧ ∃ T G, z = some (.ret, T, H ++ G) ∧ get T 10 = some (.int .i64 0) ∧ get T 11 = some (.int .i64 90)) := by
  have hfl := hr.len
  have htyo : tyOf b.types (ti : Int) = ty := tyOf_at hty
  have L := scan_rule (chl b f p) (fun _ k => !isTwin b f (ti : Int) s k) [1, 3, 5, 13, 14, 15, 16, 83, 84, 85] (fun i => [(1, eItems f), (3, .int .i64 (ti : Int)), (5, .ptr n 0 4 0 0), (13, .ptr m 0 8 0 0), (14, .int .i64 ((stP b f p (ti : Int) s i).1 : Int)), (15, .str s), (16, .bool (stP b f p (ti : Int) s i).2), (83, eIs (nI (chl b f p))), (84, .int .i64 ((chl b f p).length : Int)), (85, .int .i64 (i : Int))]) H [] (evCode (evC cprog) itLim c50_l0)
    (fun c T => c = .exit 1 ∧ keepEnv T [14] = [(14, .int .i64 ((stP b f p (ti : Int) s (chl b f p).length).1 : Int))]) (fun i k c T => c = .ret ∧ get T 10 = some (.int .i64 0) ∧ get T 11 = some (.int .i64 90))
    (fun i k hk E G hE => by
      have hlt : i < (chl b f p).length := (List.getElem?_eq_some_iff.1 hk).1
      have hii : (i : Int) < ((chl b f p).length : Int) := by omega
      have hcl := chTo_len b f p f.length
      have hcl' : (chl b f p).length ≤ f.length := hcl
      have hkm := mem_chTo.1 (List.mem_of_getElem? hk)
      obtain ⟨x, kk, t0, hx, hxt, _, ht0, _, hmin, _⟩ := hr.item hkm.1
      have ha := aI (nI_at hk)
      have hax := aItem hx
      have hld := fun (H : Heap) (a : AV) => (rfl : loadK false 1 H (some (.fptr [a])) = some a)
      have hws : IntKind.i64.wrap ((i : Int) + 1) = ((i + 1 : Nat) : Int) := by rw [wrap_i64 (by omega) (by omega)]; omega
      have h63 := fun H => f40 b f hr k hkm.1 H
      have hst := stP_step b f p (ti : Int) s hk
      have hfr : front b f (ti : Int) s k = (decide (x.type < (ti : Int)) || (decide (x.type = (ti : Int)) && (bLt (keyOf ty x.data) s || (decide (keyOf ty x.data = s) && ty.last)))) := by
        unfold front kKey
        rw [typ_at hx, dat_at hx, htyo]
      have htw : isTwin b f (ti : Int) s k = (decide (x.type = (ti : Int)) && (ty.unique && decide (keyOf ty x.data = s))) := by
        unfold isTwin kKey
        rw [typ_at hx, dat_at hx, htyo]
      simp only [eBase] at h63
      simp only [bBase] at hn
      simp only [bTy] at hm
      unfold atP at hst
      rw [hfr] at hst
      rw [htw]
      generalize hS : stP b f p (ti : Int) s i = S at *
      generalize hS1 : stP b f p (ti : Int) s (i + 1) = S1 at *
      obtain ⟨at0, bh⟩ := S
      simp only at hst hE
      generalize (chl b f p).length = cl at *
      generalize nI (chl b f p) = ks at *
      rcases Int.lt_trichotomy x.type (ti : Int) with c | c | c
      · have c1 : (x.type < (ti : Int)) = True := eq_true c
        have c2 : (x.type = (ti : Int)) = False := eq_false (by omega)
        simp only [c1, c2, decide_true, decide_false, Bool.true_or, Bool.not_true, Bool.or_false] at hst
        simp only [c2, decide_false, Bool.false_and]
        clear c
        cases bh with
        | true =>
          simp only [if_true] at hst
          simp only [c50_l0, hE, hii, ha, rI, hld, hax, rItem, c1, c2, hws, evX, Int.reduceEq, Int.reduceLT, Int.reduceLE, Nat.reduceMul, Nat.reduceMod, evW, fn_eq, evR, Nat.reduceAdd, Nat.reduceLT, Nat.reduceLeDiff, reduceIte, Nat.reduceEqDiff, reduceCtorEq, argEnv, eq_self, if_true, if_false]
          repeat' ((first | rw [guardK_cases] | rw [condK_bool] | rw [guardD_cases]); split <;> simp only [c50_l0, hE, hii, ha, rI, hld, hax, rItem, c1, c2, hws, evX, Int.reduceEq, Int.reduceLT, Int.reduceLE, Nat.reduceMul, Nat.reduceMod, evW, evR, Nat.reduceAdd, Nat.reduceLT, Nat.reduceLeDiff, reduceIte, Nat.reduceEqDiff, reduceCtorEq, argEnv, eq_self, if_true, if_false, *])
          exact Sc.next rfl (by simp only [hst]; rfl)
        | false =>
          simp only [Bool.false_eq_true, if_false] at hst
          simp only [c50_l0, hE, hii, ha, rI, hld, hax, rItem, c1, c2, hn, h63, hws, evX, Int.reduceEq, Int.reduceLT, Int.reduceLE, Nat.reduceMul, Nat.reduceMod, evW, fn_eq, evR, Nat.reduceAdd, Nat.reduceLT, Nat.reduceLeDiff, reduceIte, Nat.reduceEqDiff, reduceCtorEq, argEnv, eq_self, if_true, if_false]
          repeat' ((first | rw [guardK_cases] | rw [condK_bool] | rw [guardD_cases]); split <;> simp only [c50_l0, hE, hii, ha, rI, hld, hax, rItem, c1, c2, hn, h63, hws, evX, Int.reduceEq, Int.reduceLT, Int.reduceLE, Nat.reduceMul, Nat.reduceMod, evW, evR, Nat.reduceAdd, Nat.reduceLT, Nat.reduceLeDiff, reduceIte, Nat.reduceEqDiff, reduceCtorEq, argEnv, eq_self, if_true, if_false, *])
          exact Sc.next rfl (by simp only [hst]; rfl)
      · have c2 : (x.type = (ti : Int)) = True := eq_true c
        have c1 : (x.type < (ti : Int)) = False := eq_false (by omega)
        have hty0 : t0 = ty := by
          have e : kk = ti := by omega
          rw [e, hty] at ht0
          cases ht0; rfl
        have h105 := fun H => f43 ty hok x.data (by rw [← hty0]; exact hmin) H
        simp only [c1, c2, decide_true, decide_false, Bool.false_or, Bool.true_and] at hst
        simp only [c2, decide_true, Bool.true_and]
        clear c hxt
        generalize keyOf ty x.data = ky at *
        simp only [rTy] at h105 hm
        obtain ⟨nm, pa, mi, si, fs, ke, u, la⟩ := ty
        simp only at h105 hm hst ⊢
        by_cases ks' : ky = s
        · have k1 : (ky = s) = True := eq_true ks'
          have k2 : bLt ky s = false := by rw [ks']; exact bLt_irrefl s
          simp only [k1, k2, decide_true, Bool.false_or, Bool.true_and, Bool.and_true] at hst ⊢
          clear ks'
          cases u with
          | true =>
            simp only [c50_l0, hE, hii, ha, rI, hld, hax, rItem, c1, c2, hm, h105, k1, evX, Int.reduceEq, Int.reduceLT, Int.reduceLE, Nat.reduceMul, Nat.reduceMod, evW, fn_eq, evR, Nat.reduceAdd, Nat.reduceLT, Nat.reduceLeDiff, reduceIte, Nat.reduceEqDiff, reduceCtorEq, argEnv, eq_self, if_true, if_false]
            repeat' ((first | rw [guardK_cases] | rw [condK_bool] | rw [guardD_cases]); split <;> simp only [c50_l0, hE, hii, ha, rI, hld, hax, rItem, c1, c2, hm, h105, k1, evX, Int.reduceEq, Int.reduceLT, Int.reduceLE, Nat.reduceMul, Nat.reduceMod, evW, evR, Nat.reduceAdd, Nat.reduceLT, Nat.reduceLeDiff, reduceIte, Nat.reduceEqDiff, reduceCtorEq, argEnv, eq_self, if_true, if_false, *])
            exact Sc.ret rfl ⟨rfl, by rfl, by rfl⟩
          | false =>
            cases la <;> cases bh <;> simp only [Bool.or_false, Bool.false_or, Bool.or_true, Bool.true_or, Bool.not_true, Bool.not_false, Bool.false_eq_true, if_true, if_false] at hst
            all_goals
              simp only [c50_l0, hE, hii, ha, rI, hld, hax, rItem, c1, c2, hm, hn, h63, h105, k1, k2, hws, evX, Int.reduceEq, Int.reduceLT, Int.reduceLE, Nat.reduceMul, Nat.reduceMod, evW, fn_eq, evR, Nat.reduceAdd, Nat.reduceLT, Nat.reduceLeDiff, reduceIte, Nat.reduceEqDiff, reduceCtorEq, argEnv, eq_self, if_true, if_false]
              repeat' ((first | rw [guardK_cases] | rw [condK_bool] | rw [guardD_cases]); split <;> simp only [c50_l0, hE, hii, ha, rI, hld, hax, rItem, c1, c2, hm, hn, h63, h105, k1, k2, hws, evX, Int.reduceEq, Int.reduceLT, Int.reduceLE, Nat.reduceMul, Nat.reduceMod, evW, evR, Nat.reduceAdd, Nat.reduceLT, Nat.reduceLeDiff, reduceIte, Nat.reduceEqDiff, reduceCtorEq, argEnv, eq_self, if_true, if_false, *])
              exact Sc.next rfl (by simp only [hst]; rfl)
        · have k1 : (ky = s) = False := eq_false ks'
          simp only [k1, decide_false, Bool.false_and, Bool.or_false, Bool.and_false] at hst ⊢
          clear ks'
          cases k2 : bLt ky s <;> cases u <;> cases bh <;> simp only [k2, Bool.or_false, Bool.false_or, Bool.or_true, Bool.true_or, Bool.not_true, Bool.not_false, Bool.false_eq_true, if_true, if_false] at hst
          all_goals
            simp only [c50_l0, hE, hii, ha, rI, hld, hax, rItem, c1, c2, hm, hn, h63, h105, k1, k2, hws, evX, Int.reduceEq, Int.reduceLT, Int.reduceLE, Nat.reduceMul, Nat.reduceMod, evW, fn_eq, evR, Nat.reduceAdd, Nat.reduceLT, Nat.reduceLeDiff, reduceIte, Nat.reduceEqDiff, reduceCtorEq, argEnv, eq_self, if_true, if_false]
            repeat' ((first | rw [guardK_cases] | rw [condK_bool] | rw [guardD_cases]); split <;> simp only [c50_l0, hE, hii, ha, rI, hld, hax, rItem, c1, c2, hm, hn, h63, h105, k1, k2, hws, evX, Int.reduceEq, Int.reduceLT, Int.reduceLE, Nat.reduceMul, Nat.reduceMod, evW, evR, Nat.reduceAdd, Nat.reduceLT, Nat.reduceLeDiff, reduceIte, Nat.reduceEqDiff, reduceCtorEq, argEnv, eq_self, if_true, if_false, *])
            exact Sc.next rfl (by simp only [hst]; rfl)
      · have c2 : (x.type = (ti : Int)) = False := eq_false (by omega)
        have c1 : (x.type < (ti : Int)) = False := eq_false (by omega)
        simp only [c1, c2, decide_false, Bool.false_or, Bool.false_and, Bool.not_false, Bool.or_true, if_true] at hst
        simp only [c2, decide_false, Bool.false_and]
        clear c
        cases bh with
        | true =>
          simp only [c50_l0, hE, hii, ha, rI, hld, hax, rItem, c1, c2, hws, evX, Int.reduceEq, Int.reduceLT, Int.reduceLE, Nat.reduceMul, Nat.reduceMod, evW, fn_eq, evR, Nat.reduceAdd, Nat.reduceLT, Nat.reduceLeDiff, reduceIte, Nat.reduceEqDiff, reduceCtorEq, argEnv, eq_self, if_true, if_false]
          repeat' ((first | rw [guardK_cases] | rw [condK_bool] | rw [guardD_cases]); split <;> simp only [c50_l0, hE, hii, ha, rI, hld, hax, rItem, c1, c2, hws, evX, Int.reduceEq, Int.reduceLT, Int.reduceLE, Nat.reduceMul, Nat.reduceMod, evW, evR, Nat.reduceAdd, Nat.reduceLT, Nat.reduceLeDiff, reduceIte, Nat.reduceEqDiff, reduceCtorEq, argEnv, eq_self, if_true, if_false, *])
          exact Sc.next rfl (by simp only [hst]; rfl)
        | false =>
          simp only [c50_l0, hE, hii, ha, rI, hld, hax, rItem, c1, c2, hws, evX, Int.reduceEq, Int.reduceLT, Int.reduceLE, Nat.reduceMul, Nat.reduceMod, evW, fn_eq, evR, Nat.reduceAdd, Nat.reduceLT, Nat.reduceLeDiff, reduceIte, Nat.reduceEqDiff, reduceCtorEq, argEnv, eq_self, if_true, if_false]
          repeat' ((first | rw [guardK_cases] | rw [condK_bool] | rw [guardD_cases]); split <;> simp only [c50_l0, hE, hii, ha, rI, hld, hax, rItem, c1, c2, hws, evX, Int.reduceEq, Int.reduceLT, Int.reduceLE, Nat.reduceMul, Nat.reduceMod, evW, evR, Nat.reduceAdd, Nat.reduceLT, Nat.reduceLeDiff, reduceIte, Nat.reduceEqDiff, reduceCtorEq, argEnv, eq_self, if_true, if_false, *])
          exact Sc.next rfl (by simp only [hst]; rfl))
    (fun E G hE => by
      generalize hks : nI (chl b f p) = ks at *
      simp only [c50_l0, hE, Int.lt_irrefl, evX, Int.reduceEq, Int.reduceLT, Int.reduceLE, Nat.reduceMul, Nat.reduceMod, evW, fn_eq, evR, Nat.reduceAdd, Nat.reduceLT, Nat.reduceLeDiff, reduceIte, Nat.reduceEqDiff, reduceCtorEq, argEnv, eq_self, if_true, if_false]
      repeat' ((first | rw [guardK_cases] | rw [condK_bool] | rw [guardD_cases]); split <;> simp only [c50_l0, hE, Int.lt_irrefl, evX, Int.reduceEq, Int.reduceLT, Int.reduceLE, Nat.reduceMul, Nat.reduceMod, evW, evR, Nat.reduceAdd, Nat.reduceLT, Nat.reduceLeDiff, reduceIte, Nat.reduceEqDiff, reduceCtorEq, argEnv, eq_self, if_true, if_false, *])
      exact .exit (K := []) ⟨rfl, by rfl⟩) st [] (by rw [hE]; rfl) (by simpa using hH) z hz
  rcases L with ⟨hall, c, T, G, rfl, _, rfl, hT⟩ | ⟨i, x, hx, hno, hb, c, T, G, rfl, _, rfl, hT1, hT2⟩
  · refine .inl ⟨?_, T, G, by simp, ?_⟩
    · unfold twice
      rw [List.any_eq_false]
      intro k hk
      obtain ⟨i, hi⟩ := List.getElem?_of_mem hk
      have := hall i k hi
      simpa using this
    · unfold stP at hT
      rw [List.take_length] at hT
      exact hT
  · refine .inr ⟨?_, T, G, by simp, hT1, hT2⟩
    · unfold twice
      rw [List.any_eq_true]
      exact ⟨x, List.mem_of_getElem? hx, by simpa using hno⟩
end Go.Proofs.Ytcbmakanokmdjaa.Code

/- plain: where a new item stands, of the program: place. -/
set_option linter.unusedSimpArgs false
set_option linter.unusedVariables false
namespace Go.Proofs.Ytcbmakanokmdjaa.Code
open Go.Proofs.Ytcbmakanokmdjaa.Ev

theorem argOk_at {b : Base} {f : List Item} {p t : Int} {d : ByteArray} (h : argOk b f p t d = true) : -1 ≤ p ∧ p < (f.length : Int) ∧ fits b.types ⟨t, d⟩ = true ∧ ((p < 0 ∧ t = 0) ∨ (0 ≤ p ∧ tpar b.types t = typ f p)) := by
  simp only [argOk, Bool.and_eq_true, decide_eq_true_eq] at h
  obtain ⟨⟨⟨h1, h2⟩, h3⟩, h4⟩ := h
  refine ⟨h1, h2, h3, ?_⟩
  split at h4
  · rename_i hp; exact .inl ⟨hp, of_decide_eq_true h4⟩
  · rename_i hp; exact .inr ⟨by omega, of_decide_eq_true h4⟩
set_option maxHeartbeats 4000000 in
theorem f50 (b : Base) (hb : b.Ok) (f : List Item) (hfl : f.length < 9223372036854775807) (p t : Int) (d : ByteArray) (H : Heap) :
    cal (evC cprog) false 50 [eBase b, eItems f, .int .i64 p, .int .i64 t, .str d] H = some (.tup [.int .i64 (placeR b f p t d), .int .i64 (placeE b f p t d)], H) := by
  rw [cal_of at50]
  have h61 := fun K => f37 b hb f .nils rfl [] (by simp) K (nil_slat K)
  simp only [eBase] at h61
  have hlen := (sItems [] f).len
  simp only [List.length_map] at hlen
  by_cases he : errF b f [] = 0
  · have hr := (errF_zero hb he).1
    have hfl2 := hr.len
    rw [he] at h61
    have bad : argOk b f p t d = false → placeE b f p t d = 2 ∧ placeR b f p t d = 0 := fun h => by
      have e : placeE b f p t d = 2 := by unfold placeE; rw [if_pos he, if_neg (by rw [h]; simp)]
      exact ⟨e, by unfold placeR; rw [e]; rfl⟩
    by_cases c1 : p < -1
    · obtain ⟨e1, e2⟩ := bad (by simp [argOk]; omega)
      rw [e1, e2]
      simp only [c50, eBase, h61, hlen, c1, evX, Int.reduceEq, Int.reduceLT, Int.reduceLE, Nat.reduceMul, Nat.reduceMod, evW, fn_eq, evR, Nat.reduceAdd, Nat.reduceLT, Nat.reduceLeDiff, reduceIte, Nat.reduceEqDiff, reduceCtorEq, argEnv, eq_self, if_true, if_false]
      repeat' ((first | rw [guardK_cases] | rw [condK_bool] | rw [guardD_cases]); split <;> simp only [c50, eBase, h61, hlen, c1, evX, Int.reduceEq, Int.reduceLT, Int.reduceLE, Nat.reduceMul, Nat.reduceMod, evW, evR, Nat.reduceAdd, Nat.reduceLT, Nat.reduceLeDiff, reduceIte, Nat.reduceEqDiff, reduceCtorEq, argEnv, eq_self, if_true, if_false, *])
    by_cases c2 : (f.length : Int) ≤ p
    · obtain ⟨e1, e2⟩ := bad (by simp [argOk]; omega)
      rw [e1, e2]
      simp only [c50, eBase, h61, hlen, c1, c2, evX, Int.reduceEq, Int.reduceLT, Int.reduceLE, Nat.reduceMul, Nat.reduceMod, evW, fn_eq, evR, Nat.reduceAdd, Nat.reduceLT, Nat.reduceLeDiff, reduceIte, Nat.reduceEqDiff, reduceCtorEq, argEnv, eq_self, if_true, if_false]
      repeat' ((first | rw [guardK_cases] | rw [condK_bool] | rw [guardD_cases]); split <;> simp only [c50, eBase, h61, hlen, c1, c2, evX, Int.reduceEq, Int.reduceLT, Int.reduceLE, Nat.reduceMul, Nat.reduceMod, evW, evR, Nat.reduceAdd, Nat.reduceLT, Nat.reduceLeDiff, reduceIte, Nat.reduceEqDiff, reduceCtorEq, argEnv, eq_self, if_true, if_false, *])
    have h104 := fun K => f42 b ⟨t, d⟩ K
    simp only [eBase, rItem] at h104
    cases hfit : fits b.types ⟨t, d⟩ with
    | false =>
      obtain ⟨e1, e2⟩ := bad (by simp [argOk, hfit])
      rw [e1, e2]
      rw [hfit] at h104
      simp only [c50, eBase, h61, hlen, c1, c2, h104, evX, Int.reduceEq, Int.reduceLT, Int.reduceLE, Nat.reduceMul, Nat.reduceMod, evW, fn_eq, evR, Nat.reduceAdd, Nat.reduceLT, Nat.reduceLeDiff, reduceIte, Nat.reduceEqDiff, reduceCtorEq, argEnv, eq_self, if_true, if_false]
      repeat' ((first | rw [guardK_cases] | rw [condK_bool] | rw [guardD_cases]); split <;> simp only [c50, eBase, h61, hlen, c1, c2, h104, evX, Int.reduceEq, Int.reduceLT, Int.reduceLE, Nat.reduceMul, Nat.reduceMod, evW, evR, Nat.reduceAdd, Nat.reduceLT, Nat.reduceLeDiff, reduceIte, Nat.reduceEqDiff, reduceCtorEq, argEnv, eq_self, if_true, if_false, *])
    | true =>
      rw [hfit] at h104
      obtain ⟨ti, ty, htt, htl, hty, hmin, hmax⟩ := fits_some hfit
      simp only at htt hmin hmax
      subst htt
      have hat := aTy hty
      have htok : tyOk ty = true := by
        have := tell_true.1 hr.tys ti ty hty
        simp only [tyAt, Bool.and_eq_true] at this; exact this.1.1.1
      have hpar : tpar b.types (ti : Int) = ty.parent := tpar_at hty

      have h105 := fun K => f43 ty htok d (by omega) K
      have h106 := fun (hp : -1 ≤ p) (hpl : p < (f.length : Int)) K => f73 b f hr p hp hpl K
      have hks := (sIs [] (nI (chl b f p))).len
      rw [List.length_map, show (nI (chl b f p)).length = (chl b f p).length by simp [nI]] at hks
      have hlp := fun K n m hn hm => l50 b f hr p ti ty hty htok (keyOf ty d) K n m hn hm
      have hnn : placeN b f p (ti : Int) d = ((chl b f p).foldl (atP b f (ti : Int) (keyOf ty d)) ((p + 1).toNat, false)).1 := by
        unfold placeN
        rw [tyOf_at hty]
        exact (plAt_same b f (ti : Int) (keyOf ty d) (chl b f p) (p + 1).toNat (chl_mono hr p (ti : Int) (keyOf ty d))).symm
      have hwp : IntKind.i64.wrap (p + 1) = (((p + 1).toNat : Nat) : Int) := by rw [wrap_i64 (by omega) (by omega)]; omega
      have good : argOk b f p (ti : Int) d = true → placeE b f p (ti : Int) d = if twice b f p (ti : Int) (keyOf ty d) = true then 90 else 0 := fun h => by
        unfold placeE; rw [if_pos he, if_pos h, tyOf_at hty]
      have hK := hlp (H ++ [bBase b, bTy ty]) H.length (H.length + 1) (fun Z => by simp) (fun Z => by simp)
      clear hlp
      simp only [eBase, rTy] at h105 h106
      by_cases c3 : p < 0
      · have hp1 : p = -1 := by omega
        have c3n : ¬ (0 : Int) ≤ p := by omega
        by_cases c4 : ti = 0
        · have hg : argOk b f p (ti : Int) d = true := by
            simp only [argOk, Bool.and_eq_true, decide_eq_true_eq]
            exact ⟨⟨⟨by omega, by omega⟩, hfit⟩, by rw [if_pos c3]; simp [c4]⟩
          have c4' : ((ti : Int) = 0) = True := eq_true (by omega)
          have h106' := h106 (by omega) (by omega)
          have e1 := good hg
          clear good bad hp1 c4
          generalize nI (chl b f p) = ks at *
          generalize (chl b f p).length = cl at *
          simp only [bBase, bTy, rTy] at hK
          simp only [c50, eBase, h61, hlen, c1, c2, h104, c3, c3n, c4', hat, rTy, h105, h106', hks, hwp, evX, Int.reduceEq, Int.reduceLT, Int.reduceLE, Nat.reduceMul, Nat.reduceMod, evW, fn_eq, evR, Nat.reduceAdd, Nat.reduceLT, Nat.reduceLeDiff, reduceIte, Nat.reduceEqDiff, reduceCtorEq, argEnv, eq_self, if_true, if_false]
          repeat' ((first | rw [guardK_cases] | rw [condK_bool] | rw [guardD_cases]); split <;> simp only [c50, eBase, h61, hlen, c1, c2, h104, c3, c3n, c4', hat, rTy, h105, h106', hks, hwp, evX, Int.reduceEq, Int.reduceLT, Int.reduceLE, Nat.reduceMul, Nat.reduceMod, evW, evR, Nat.reduceAdd, Nat.reduceLT, Nat.reduceLeDiff, reduceIte, Nat.reduceEqDiff, reduceCtorEq, argEnv, eq_self, if_true, if_false, *])
          generalize hz : itLim _ _ = z
          rcases hK _ (by rfl) (by rfl) z hz with ⟨ht, T, G, rfl, hT⟩ | ⟨ht, T, G, rfl, hT1, hT2⟩
          · rw [ht] at e1
            have e2 : placeR b f p (ti : Int) d = (placeN b f p (ti : Int) d : Int) := by unfold placeR; rw [e1]; rfl
            rw [e1, e2, hnn]
            simp only [hT, evX, Int.reduceEq, Int.reduceLT, Int.reduceLE, Nat.reduceMul, Nat.reduceMod, evW, fn_eq, evR, Nat.reduceAdd, Nat.reduceLT, Nat.reduceLeDiff, reduceIte, Nat.reduceEqDiff, reduceCtorEq, argEnv, eq_self, if_true, if_false]
            repeat' ((first | rw [guardK_cases] | rw [condK_bool] | rw [guardD_cases]); split <;> simp only [hT, evX, Int.reduceEq, Int.reduceLT, Int.reduceLE, Nat.reduceMul, Nat.reduceMod, evW, evR, Nat.reduceAdd, Nat.reduceLT, Nat.reduceLeDiff, reduceIte, Nat.reduceEqDiff, reduceCtorEq, argEnv, eq_self, if_true, if_false, *])
          · rw [ht] at e1
            have e2 : placeR b f p (ti : Int) d = 0 := by unfold placeR; rw [e1]; rfl
            rw [e1, e2]
            simp only [hT1, hT2, evX, Int.reduceEq, Int.reduceLT, Int.reduceLE, Nat.reduceMul, Nat.reduceMod, evW, fn_eq, evR, Nat.reduceAdd, Nat.reduceLT, Nat.reduceLeDiff, reduceIte, Nat.reduceEqDiff, reduceCtorEq, argEnv, eq_self, if_true, if_false]
            repeat' ((first | rw [guardK_cases] | rw [condK_bool] | rw [guardD_cases]); split <;> simp only [hT1, hT2, evX, Int.reduceEq, Int.reduceLT, Int.reduceLE, Nat.reduceMul, Nat.reduceMod, evW, evR, Nat.reduceAdd, Nat.reduceLT, Nat.reduceLeDiff, reduceIte, Nat.reduceEqDiff, reduceCtorEq, argEnv, eq_self, if_true, if_false, *])
        · obtain ⟨e1, e2⟩ := bad (by simp [argOk, c3]; omega)
          have c4' : ((ti : Int) = 0) = False := eq_false (by omega)
          rw [e1, e2]
          simp only [c50, eBase, h61, hlen, c1, c2, h104, c3, c4', evX, Int.reduceEq, Int.reduceLT, Int.reduceLE, Nat.reduceMul, Nat.reduceMod, evW, fn_eq, evR, Nat.reduceAdd, Nat.reduceLT, Nat.reduceLeDiff, reduceIte, Nat.reduceEqDiff, reduceCtorEq, argEnv, eq_self, if_true, if_false]
          repeat' ((first | rw [guardK_cases] | rw [condK_bool] | rw [guardD_cases]); split <;> simp only [c50, eBase, h61, hlen, c1, c2, h104, c3, c4', evX, Int.reduceEq, Int.reduceLT, Int.reduceLE, Nat.reduceMul, Nat.reduceMod, evW, evR, Nat.reduceAdd, Nat.reduceLT, Nat.reduceLeDiff, reduceIte, Nat.reduceEqDiff, reduceCtorEq, argEnv, eq_self, if_true, if_false, *])
      · obtain ⟨q, rfl⟩ : ∃ q : Nat, p = (q : Int) := ⟨p.toNat, by omega⟩
        obtain ⟨y, hy⟩ : ∃ y, f[q]? = some y := ⟨_, List.getElem?_eq_getElem (by omega)⟩
        have haq := aItem hy
        have c3' : (0 : Int) ≤ (q : Int) := by omega
        by_cases c4 : ty.parent = y.type
        · have hg : argOk b f (q : Int) (ti : Int) d = true := by
            simp only [argOk, Bool.and_eq_true, decide_eq_true_eq]
            exact ⟨⟨⟨by omega, by omega⟩, hfit⟩, by rw [if_neg c3, hpar, typ_at hy]; simp [c4]⟩
          have c4' : (ty.parent = y.type) = True := eq_true c4
          have h106' := h106 (by omega) (by omega)
          have e1 := good hg
          clear good bad c4
          generalize nI (chl b f (q : Int)) = ks at *
          generalize (chl b f (q : Int)).length = cl at *
          simp only [bBase, bTy, rTy] at hK
          simp only [c50, eBase, h61, hlen, c1, c2, h104, c3, c3', c4', hat, haq, rItem, rTy, h105, h106', hks, hwp, evX, Int.reduceEq, Int.reduceLT, Int.reduceLE, Nat.reduceMul, Nat.reduceMod, evW, fn_eq, evR, Nat.reduceAdd, Nat.reduceLT, Nat.reduceLeDiff, reduceIte, Nat.reduceEqDiff, reduceCtorEq, argEnv, eq_self, if_true, if_false]
          repeat' ((first | rw [guardK_cases] | rw [condK_bool] | rw [guardD_cases]); split <;> simp only [c50, eBase, h61, hlen, c1, c2, h104, c3, c3', c4', hat, haq, rItem, rTy, h105, h106', hks, hwp, evX, Int.reduceEq, Int.reduceLT, Int.reduceLE, Nat.reduceMul, Nat.reduceMod, evW, evR, Nat.reduceAdd, Nat.reduceLT, Nat.reduceLeDiff, reduceIte, Nat.reduceEqDiff, reduceCtorEq, argEnv, eq_self, if_true, if_false, *])
          generalize hz : itLim _ _ = z
          rcases hK _ (by rfl) (by rfl) z hz with ⟨ht, T, G, rfl, hT⟩ | ⟨ht, T, G, rfl, hT1, hT2⟩
          · rw [ht] at e1
            have e2 : placeR b f (q : Int) (ti : Int) d = (placeN b f (q : Int) (ti : Int) d : Int) := by unfold placeR; rw [e1]; rfl
            rw [e1, e2, hnn]
            simp only [hT, evX, Int.reduceEq, Int.reduceLT, Int.reduceLE, Nat.reduceMul, Nat.reduceMod, evW, fn_eq, evR, Nat.reduceAdd, Nat.reduceLT, Nat.reduceLeDiff, reduceIte, Nat.reduceEqDiff, reduceCtorEq, argEnv, eq_self, if_true, if_false]
            repeat' ((first | rw [guardK_cases] | rw [condK_bool] | rw [guardD_cases]); split <;> simp only [hT, evX, Int.reduceEq, Int.reduceLT, Int.reduceLE, Nat.reduceMul, Nat.reduceMod, evW, evR, Nat.reduceAdd, Nat.reduceLT, Nat.reduceLeDiff, reduceIte, Nat.reduceEqDiff, reduceCtorEq, argEnv, eq_self, if_true, if_false, *])
          · rw [ht] at e1
            have e2 : placeR b f (q : Int) (ti : Int) d = 0 := by unfold placeR; rw [e1]; rfl
            rw [e1, e2]
            simp only [hT1, hT2, evX, Int.reduceEq, Int.reduceLT, Int.reduceLE, Nat.reduceMul, Nat.reduceMod, evW, fn_eq, evR, Nat.reduceAdd, Nat.reduceLT, Nat.reduceLeDiff, reduceIte, Nat.reduceEqDiff, reduceCtorEq, argEnv, eq_self, if_true, if_false]
            repeat' ((first | rw [guardK_cases] | rw [condK_bool] | rw [guardD_cases]); split <;> simp only [hT1, hT2, evX, Int.reduceEq, Int.reduceLT, Int.reduceLE, Nat.reduceMul, Nat.reduceMod, evW, evR, Nat.reduceAdd, Nat.reduceLT, Nat.reduceLeDiff, reduceIte, Nat.reduceEqDiff, reduceCtorEq, argEnv, eq_self, if_true, if_false, *])
        · obtain ⟨e1, e2⟩ := bad (by simp only [argOk]; rw [if_neg c3, hpar, typ_at hy, decide_eq_false c4, Bool.and_false])
          have c4' : (ty.parent = y.type) = False := eq_false c4
          clear c4
          rw [e1, e2]
          simp only [c50, eBase, h61, hlen, c1, c2, h104, c3, c3', c4', hat, haq, rItem, rTy, evX, Int.reduceEq, Int.reduceLT, Int.reduceLE, Nat.reduceMul, Nat.reduceMod, evW, fn_eq, evR, Nat.reduceAdd, Nat.reduceLT, Nat.reduceLeDiff, reduceIte, Nat.reduceEqDiff, reduceCtorEq, argEnv, eq_self, if_true, if_false]
          repeat' ((first | rw [guardK_cases] | rw [condK_bool] | rw [guardD_cases]); split <;> simp only [c50, eBase, h61, hlen, c1, c2, h104, c3, c3', c4', hat, haq, rItem, rTy, evX, Int.reduceEq, Int.reduceLT, Int.reduceLE, Nat.reduceMul, Nat.reduceMod, evW, evR, Nat.reduceAdd, Nat.reduceLT, Nat.reduceLeDiff, reduceIte, Nat.reduceEqDiff, reduceCtorEq, argEnv, eq_self, if_true, if_false, *])
  · have e1 : placeE b f p t d = errF b f [] := if_neg he
    have e2 : placeR b f p t d = 0 := by unfold placeR; rw [e1, if_neg he]
    rw [e1, e2]
    simp only [c50, eBase, h61, he, evX, Int.reduceEq, Int.reduceLT, Int.reduceLE, Nat.reduceMul, Nat.reduceMod, evW, fn_eq, evR, Nat.reduceAdd, Nat.reduceLT, Nat.reduceLeDiff, reduceIte, Nat.reduceEqDiff, reduceCtorEq, argEnv, eq_self, if_true, if_false]
    repeat' ((first | rw [guardK_cases] | rw [condK_bool] | rw [guardD_cases]); split <;> simp only [c50, eBase, h61, he, evX, Int.reduceEq, Int.reduceLT, Int.reduceLE, Nat.reduceMul, Nat.reduceMod, evW, evR, Nat.reduceAdd, Nat.reduceLT, Nat.reduceLeDiff, reduceIte, Nat.reduceEqDiff, reduceCtorEq, argEnv, eq_self, if_true, if_false, *])
end Go.Proofs.Ytcbmakanokmdjaa.Code

/- plain: where a new item stands, of the document. -/
set_option linter.unusedSimpArgs false
set_option linter.unusedVariables false
namespace Go.Proofs.Ytcbmakanokmdjaa.Code
open Go.Proofs.Ytcbmakanokmdjaa.Ev

end Go.Proofs.Ytcbmakanokmdjaa.Code

/- plain: where a new item stands, of the document: placed. -/
set_option linter.unusedSimpArgs false
set_option linter.unusedVariables false
namespace Go.Proofs.Ytcbmakanokmdjaa.Code
open Go.Proofs.Ytcbmakanokmdjaa.Ev

end Go.Proofs.Ytcbmakanokmdjaa.Code

/- plain: the forest with a new item, of the program and of the document. -/
set_option linter.unusedSimpArgs false
set_option linter.unusedVariables false
namespace Go.Proofs.Ytcbmakanokmdjaa.Code
open Go.Proofs.Ytcbmakanokmdjaa.Ev

theorem fn_user {call it} {n : Nat} {res : List CRes} {p : List AV → Heap → Option (List AV × Heap)} (args : List AV) (H : Heap) : evFn call it ⟨n, res, .user p, false, false⟩ args H = bodyK res ((p args H).map fun r => (CX.ret, (argEnv 0 r.1, r.2))) := by
  rw [fn_eq]
  simp only [evCode, user_args]
theorem f52r (H : Heap) (b v n bv : Nat) (els : List (List AV)) (row : List AV) (hb : H[b]? = some ⟨v, true, 50, 2, els⟩) (hv : H[bv]? = some ⟨0, true, 50, 2, [row]⟩) (hne : b ≠ bv) (hn : n = els.length) (hr : n < 100000) (i : Nat) (hi : i ≤ n) :
    cal (evC cprog) false 52 [.ref b v 2 0 n, .int .i64 (i : Int), .ref bv 0 2 0 1] H = some (.ref b (v + 1) 2 0 (n + 1), H.set b ⟨v + 1, true, 50, 2, els.take i ++ row :: els.drop i⟩) := by
  rw [cal_of at52, show c52 = ⟨0, [.t 0], .user (pIns 2 50 24), false, false⟩ from rfl, fn_user]
  have hc1 : curBlk H b v 2 = some ⟨v, true, 50, 2, els⟩ := by simp [curBlk, hb]
  have hc2 : curBlk H bv 0 2 = some ⟨0, true, 50, 2, [row]⟩ := by simp [curBlk, hv]
  have h : pIns 2 50 24 [.ref b v 2 0 n, .int .i64 (i : Int), .ref bv 0 2 0 1] H = some ([.ref b (v + 1) 2 0 (n + 1)], H.set b ⟨v + 1, true, 50, 2, els.take i ++ row :: els.drop i⟩) := by
    have ht : els.take n = els := List.take_of_length_le (by omega)
    simp only [pIns, hc1, hc2, List.getElem?_cons_zero]
    rw [if_pos ⟨trivial, trivial, trivial, trivial, hne, by omega, by omega, by omega, by unfold reach; omega, by unfold reach; omega⟩, Int.toNat_natCast, ht]
  rw [h]
  simp only [evX, Int.reduceEq, Int.reduceLT, Int.reduceLE, Nat.reduceMul, Nat.reduceMod, evW, fn_eq, evR, Nat.reduceAdd, Nat.reduceLT, Nat.reduceLeDiff, reduceIte, Nat.reduceEqDiff, reduceCtorEq, argEnv, eq_self, if_true, if_false]
  repeat' ((first | rw [guardK_cases] | rw [condK_bool] | rw [guardD_cases]); split <;> simp only [evX, Int.reduceEq, Int.reduceLT, Int.reduceLE, Nat.reduceMul, Nat.reduceMod, evW, evR, Nat.reduceAdd, Nat.reduceLT, Nat.reduceLeDiff, reduceIte, Nat.reduceEqDiff, reduceCtorEq, argEnv, eq_self, if_true, if_false, *])
  rw [gc_no _ _ _ rfl]
theorem f52n (H : Heap) (bv : Nat) (row : List AV) (hv : H[bv]? = some ⟨0, true, 50, 2, [row]⟩) :
    cal (evC cprog) false 52 [.nil0, .int .i64 0, .ref bv 0 2 0 1] H = some (.ref H.length 0 2 0 1, H ++ [⟨0, true, 50, 2, [row]⟩]) := by
  rw [cal_of at52, show c52 = ⟨0, [.t 0], .user (pIns 2 50 24), false, false⟩ from rfl, fn_user]
  have hc2 : curBlk H bv 0 2 = some ⟨0, true, 50, 2, [row]⟩ := by simp [curBlk, hv]
  have h : pIns 2 50 24 [.nil0, .int .i64 0, .ref bv 0 2 0 1] H = some ([.ref H.length 0 2 0 1], H ++ [⟨0, true, 50, 2, [row]⟩]) := by simp [pIns, hc2]
  rw [h]
  simp only [evX, Int.reduceEq, Int.reduceLT, Int.reduceLE, Nat.reduceMul, Nat.reduceMod, evW, fn_eq, evR, Nat.reduceAdd, Nat.reduceLT, Nat.reduceLeDiff, reduceIte, Nat.reduceEqDiff, reduceCtorEq, argEnv, eq_self, if_true, if_false]
  repeat' ((first | rw [guardK_cases] | rw [condK_bool] | rw [guardD_cases]); split <;> simp only [evX, Int.reduceEq, Int.reduceLT, Int.reduceLE, Nat.reduceMul, Nat.reduceMod, evW, evR, Nat.reduceAdd, Nat.reduceLT, Nat.reduceLeDiff, reduceIte, Nat.reduceEqDiff, reduceCtorEq, argEnv, eq_self, if_true, if_false, *])
noncomputable def insE (b : Base) (f : List Item) (p t : Int) (d : ByteArray) : Int := if placeE b f p t d = 0 then (if 200 ≤ f.length then 4 else 0) else placeE b f p t d
noncomputable def insL (b : Base) (f : List Item) (p t : Int) (d : ByteArray) : List Item := if insE b f p t d = 0 then f.take (placeN b f p t d) ++ ⟨t, d⟩ :: f.drop (placeN b f p t d) else []
noncomputable def insN (b : Base) (f : List Item) (p t : Int) (d : ByteArray) : Int := if insE b f p t d = 0 then (placeN b f p t d : Int) else 0
theorem foldD_le {b : Base} {f : List Item} {t : Int} {s : ByteArray} : ∀ (l : List Nat) (a : Nat), a ≤ f.length → (∀ k ∈ l, k < f.length) → l.foldl (atD b f t s) a ≤ f.length
  | [], a, h, _ => h
  | k :: l, a, h, hl => by
    rw [List.foldl_cons]
    refine foldD_le l _ ?_ fun j hj => hl j (List.mem_cons_of_mem _ hj)
    unfold atD
    split
    · exact (endOf_is b.types f (hl k (List.mem_cons_self ..))).le
    · exact h
theorem place_ok {b : Base} (hb : b.Ok) {f : List Item} {p t : Int} {d : ByteArray} (h : placeE b f p t d = 0) : Right b f ∧ argOk b f p t d = true ∧ twice b f p t (keyOf (tyOf b.types t) d) = false ∧ placeN b f p t d ≤ f.length := by
  have h0 := h
  unfold placeE at h
  split at h
  case isFalse he => exact absurd h he
  rename_i he
  split at h
  case isFalse => cases h
  rename_i hg
  split at h
  · cases h
  rename_i htw
  have hr := (errF_zero hb he).1
  have ha := argOk_at hg
  refine ⟨hr, hg, by simpa using htw, ?_⟩
  unfold placeN
  exact foldD_le _ _ (by omega) fun k hk => (mem_chTo.1 hk).1
def eLIE (l : List Item) (n e : Int) : AV := .tup [eItems l, .int .i64 n, .int .i64 e]
theorem f26 (b : Base) (hb : b.Ok) (f : List Item) (hfl : f.length < 9223372036854775807) (p t : Int) (d : ByteArray) (H : Heap) : cal (evC cprog) true 26 [eBase b, eItems f, .int .i64 p, .int .i64 t, .str d] H = some (eLIE (insL b f p t d) (insN b f p t d) (insE b f p t d), H) := by
  rw [cal_of at26]
  have h50 := f50 b hb f hfl p t d
  simp only [eBase] at h50
  have hlen := (sItems [] f).len
  simp only [List.length_map] at hlen
  by_cases he : placeE b f p t d = 0
  · obtain ⟨hr, _, _, hn⟩ := place_ok hb he
    have hl := hr.len
    have hR : placeR b f p t d = (placeN b f p t d : Int) := if_pos he
    rw [hR, he] at h50
    by_cases h200 : 200 ≤ f.length
    · have h200' : (200 : Int) ≤ (f.length : Int) := by omega
      have e1 : insE b f p t d = 4 := by unfold insE; rw [if_pos he, if_pos h200]
      have e2 : insL b f p t d = [] := by unfold insL; rw [e1]; rfl
      have e3 : insN b f p t d = 0 := by unfold insN; rw [e1]; rfl
      rw [e1, e2, e3]
      simp only [c26, eBase, h50, hlen, h200', evX, Int.reduceEq, Int.reduceLT, Int.reduceLE, Nat.reduceMul, Nat.reduceMod, evW, fn_eq, evR, Nat.reduceAdd, Nat.reduceLT, Nat.reduceLeDiff, reduceIte, Nat.reduceEqDiff, reduceCtorEq, argEnv, eq_self, if_true, if_false]
      repeat' ((first | rw [guardK_cases] | rw [condK_bool] | rw [guardD_cases]); split <;> simp only [c26, eBase, h50, hlen, h200', evX, Int.reduceEq, Int.reduceLT, Int.reduceLE, Nat.reduceMul, Nat.reduceMod, evW, evR, Nat.reduceAdd, Nat.reduceLT, Nat.reduceLeDiff, reduceIte, Nat.reduceEqDiff, reduceCtorEq, argEnv, eq_self, if_true, if_false, *])
      exact frz_three (fz_nils _) rfl (by simp) (by simp) _ _ _ _
    · have h200' : ¬ (200 : Int) ≤ (f.length : Int) := by omega
      have e1 : insE b f p t d = 0 := by unfold insE; rw [if_pos he, if_neg h200]
      have e2 : insL b f p t d = f.take (placeN b f p t d) ++ ⟨t, d⟩ :: f.drop (placeN b f p t d) := if_pos e1
      have e3 : insN b f p t d = (placeN b f p t d : Int) := if_pos e1
      rw [e1, e2, e3]
      clear e1 e2 e3 hR
      generalize placeN b f p t d = n at *
      cases hf : f with
      | nil =>
        subst hf
        have hn0 : n = 0 := by simpa using hn
        subst hn0
        have h39 := fun K => clone_nil (ty := 50) (sz := 2) (bytes := 24) at39 K
        have h52 := f52n (H ++ [bBase b, ⟨0, true, 50, 2, [[.int .i64 t, .str d]]⟩]) (H.length + 1) [.int .i64 t, .str d] (by simp)
        simp only [bBase, Int.natCast_zero, eItems, List.map_nil] at h52 h50 hlen h200'
        simp only [c26, eBase, eItems, List.map_nil, h50, hlen, h200', h39, h52, Int.natCast_zero, evX, Int.reduceEq, Int.reduceLT, Int.reduceLE, Nat.reduceMul, Nat.reduceMod, evW, fn_eq, evR, Nat.reduceAdd, Nat.reduceLT, Nat.reduceLeDiff, reduceIte, Nat.reduceEqDiff, reduceCtorEq, argEnv, eq_self, if_true, if_false]
        repeat' ((first | rw [guardK_cases] | rw [condK_bool] | rw [guardD_cases]); split <;> simp only [c26, eBase, eItems, List.map_nil, h50, hlen, h200', h39, h52, Int.natCast_zero, evX, Int.reduceEq, Int.reduceLT, Int.reduceLE, Nat.reduceMul, Nat.reduceMod, evW, evR, Nat.reduceAdd, Nat.reduceLT, Nat.reduceLeDiff, reduceIte, Nat.reduceEqDiff, reduceCtorEq, argEnv, eq_self, if_true, if_false, *])
        obtain ⟨ids, g1, g2⟩ := fz_blk (H := H ++ [bBase b, ⟨0, true, 50, 2, [[.int .i64 t, .str d]]⟩, ⟨0, true, 50, 2, [[.int .i64 t, .str d]]⟩]) (b := H.length + 2) (v := 0) (sz := 2) (len := 1) (k := ⟨0, true, 50, 2, [[.int .i64 t, .str d]]⟩) (by simp [curBlk]) (rows := ([⟨t, d⟩] : List Item).map rItem) rfl (plain_items _) 6
        exact frz_three (ids := ids) g1 rfl (by simp) (fun x hx => by have := g2 x hx; omega) _ _ _ _
      | cons y ys =>
        rw [← hf]
        have hf0 : 0 < f.length := by rw [hf]; simp
        clear hf
        have h39 := f39 hf0 (by omega)
        have h52 := f52r (H ++ [bBase b, ⟨0, true, 50, 2, f.map rItem⟩, ⟨0, true, 50, 2, [[.int .i64 t, .str d]]⟩]) (H.length + 1) 0 f.length (H.length + 2) (f.map rItem) [.int .i64 t, .str d] (by simp) (by simp) (by omega) (by simp) (by omega) n hn
        obtain ⟨Z, hZ⟩ : ∃ Z, Z = (H ++ [bBase b, ⟨0, true, 50, 2, f.map rItem⟩, ⟨0, true, 50, 2, [[.int .i64 t, .str d]]⟩]).set (H.length + 1) ⟨0 + 1, true, 50, 2, (f.map rItem).take n ++ [.int .i64 t, .str d] :: (f.map rItem).drop n⟩ := ⟨_, rfl⟩
        rw [← hZ] at h52
        have zb : Z[H.length + 1]? = some ⟨1, true, 50, 2, (f.map rItem).take n ++ [.int .i64 t, .str d] :: (f.map rItem).drop n⟩ := by rw [hZ, List.getElem?_set_self (by simp)]
        have zt : Z.take H.length = H := by rw [hZ, List.take_set_of_le (by omega)]; simp
        clear hZ
        simp only [bBase] at h52
        simp only [c26, eBase, h50, hlen, h200', h39, h52, evX, Int.reduceEq, Int.reduceLT, Int.reduceLE, Nat.reduceMul, Nat.reduceMod, evW, fn_eq, evR, Nat.reduceAdd, Nat.reduceLT, Nat.reduceLeDiff, reduceIte, Nat.reduceEqDiff, reduceCtorEq, argEnv, eq_self, if_true, if_false]
        repeat' ((first | rw [guardK_cases] | rw [condK_bool] | rw [guardD_cases]); split <;> simp only [c26, eBase, h50, hlen, h200', h39, h52, evX, Int.reduceEq, Int.reduceLT, Int.reduceLE, Nat.reduceMul, Nat.reduceMod, evW, evR, Nat.reduceAdd, Nat.reduceLT, Nat.reduceLeDiff, reduceIte, Nat.reduceEqDiff, reduceCtorEq, argEnv, eq_self, if_true, if_false, *])
        have hrows : (f.map rItem).take n ++ [.int .i64 t, .str d] :: (f.map rItem).drop n = (f.take n ++ ⟨t, d⟩ :: f.drop n).map rItem := by simp [rItem]
        obtain ⟨ids, g1, g2⟩ := fz_blk (H := Z) (b := H.length + 1) (v := 1) (sz := 2) (len := f.length + 1) (k := ⟨1, true, 50, 2, (f.map rItem).take n ++ [.int .i64 t, .str d] :: (f.map rItem).drop n⟩) (by simp [curBlk, zb]) (rows := (f.take n ++ ⟨t, d⟩ :: f.drop n).map rItem) (by
          rw [hrows, List.take_of_length_le (by simp; omega)]) (plain_items _) 6
        exact frz_three (ids := ids) g1 rfl zt (fun x hx => by have := g2 x hx; omega) _ _ _ _
  · have e1 : insE b f p t d = placeE b f p t d := if_neg he
    have e2 : insL b f p t d = [] := by unfold insL; rw [e1, if_neg he]
    have e3 : insN b f p t d = 0 := by unfold insN; rw [e1, if_neg he]
    rw [e1, e2, e3]
    simp only [c26, eBase, h50, he, evX, Int.reduceEq, Int.reduceLT, Int.reduceLE, Nat.reduceMul, Nat.reduceMod, evW, fn_eq, evR, Nat.reduceAdd, Nat.reduceLT, Nat.reduceLeDiff, reduceIte, Nat.reduceEqDiff, reduceCtorEq, argEnv, eq_self, if_true, if_false]
    repeat' ((first | rw [guardK_cases] | rw [condK_bool] | rw [guardD_cases]); split <;> simp only [c26, eBase, h50, he, evX, Int.reduceEq, Int.reduceLT, Int.reduceLE, Nat.reduceMul, Nat.reduceMod, evW, evR, Nat.reduceAdd, Nat.reduceLT, Nat.reduceLeDiff, reduceIte, Nat.reduceEqDiff, reduceCtorEq, argEnv, eq_self, if_true, if_false, *])
    exact frz_three (fz_nils _) rfl (by simp) (by simp) _ _ _ _
end Go.Proofs.Ytcbmakanokmdjaa.Code

/- plain: a forest with a new item is a forest: parents and paths (mathematics). -/
set_option linter.unusedSimpArgs false
set_option linter.unusedVariables false
namespace Go.Proofs.Ytcbmakanokmdjaa.Code
open Go.Proofs.Ytcbmakanokmdjaa.Ev

theorem lastTo_past {f : List Item} {p : Int} : ∀ (n : Nat), ∀ j : Nat, lastTo f p n < (j : Int) → j < n → typ f (j : Int) ≠ p
  | 0, j, _, h => by omega
  | n + 1, j, h, hj => by
    unfold lastTo at h
    split at h
    · omega
    · rename_i h1
      by_cases e : j = n
      · subst e; exact h1
      · exact lastTo_past n j h (by omega)
/-- what is on one way has types that rise -/
theorem way_typ {b : Base} {f : List Item} (h : Right b f) {j : Nat} (hj : j < f.length) {a c : Nat} (ha : (a : Int) ∈ pth b.types f j) (hc : (c : Int) ∈ pth b.types f j) (hac : a < c) : typ f (a : Int) < typ f (c : Int) := by
  have hcj := pth_bound hc
  have := way_between (Nat.le_refl _) h.ok j hj (a : Int) ha c (by omega) (by omega)
  exact typ_rise h.tys (Nat.le_refl _) h.ok c c (Nat.le_refl _) (by omega) (a : Int) this (by omega)
theorem way_inj {b : Base} {f : List Item} (h : Right b f) {j : Nat} (hj : j < f.length) {a c : Nat} (ha : (a : Int) ∈ pth b.types f j) (hc : (c : Int) ∈ pth b.types f j) (ht : typ f (a : Int) = typ f (c : Int)) : a = c := by
  rcases Nat.lt_trichotomy a c with h1 | h1 | h1
  · have := way_typ h hj ha hc h1; omega
  · exact h1
  · have := way_typ h hj hc ha h1; omega
/-- two on one way with one parent are one -/
theorem way_par {b : Base} {f : List Item} (h : Right b f) {j : Nat} (hj : j < f.length) {a c : Nat} (ha : (a : Int) ∈ pth b.types f j) (hc : (c : Int) ∈ pth b.types f j) (hp : par b.types f a = par b.types f c) : a = c := by
  have key : ∀ {a c : Nat}, (a : Int) ∈ pth b.types f j → (c : Int) ∈ pth b.types f j → par b.types f a = par b.types f c → ¬ a < c := fun {a c} ha hc hp hlt => by
    have hcj := pth_bound hc
    have hm := way_between (Nat.le_refl _) h.ok j hj (a : Int) ha c (by omega) (by omega)
    obtain ⟨h0, h1⟩ := mem_par (b := b) (f := f) (j := c) (by omega) hm (by omega)
    have := pth_bound h1
    have := par_lt b.types f a
    omega
  have h1 := key ha hc hp
  have h2 := key hc ha hp.symm
  omega
/-- where a new item goes, and what is known of the place -/
structure Spot (b : Base) (f : List Item) (p t : Int) (d : ByteArray) (n : Nat) : Prop where
  R : Right b f
  lo : -1 ≤ p
  hi : p < (f.length : Int)
  le : n ≤ f.length
  at' : (n : Int) = p + 1 ∨ ∃ c : Nat, c < f.length ∧ par b.types f c = p ∧ n = endOf b.types f c ∧ front b f t (keyOf (tyOf b.types t) d) c = true
  next : n < f.length → par b.types f n = p → front b f t (keyOf (tyOf b.types t) d) n = false
  fit : fits b.types ⟨t, d⟩ = true
  typ : (p < 0 ∧ t = 0) ∨ (0 ≤ p ∧ tpar b.types t = Code.typ f p)
  one : (tyOf b.types t).unique = true → ∀ k : Nat, k < f.length → par b.types f k = p → Code.typ f (k : Int) = t → kKey b f t k ≠ keyOf (tyOf b.types t) d
section
variable {b : Base} {f : List Item} {p t : Int} {d : ByteArray} {n : Nat} (S : Spot b f p t d n)
include S
theorem Spot.gt : p < (n : Int) := by
  rcases S.at' with h | ⟨c, h1, h2, h3, _⟩
  · omega
  · have := par_lt b.types f c
    have := (endOf_is b.types f h1).lt
    omega
/-- the parent is on the way of the place -/
theorem Spot.way {q : Nat} (hq : p = (q : Int)) : (q : Int) ∈ pth b.types f (n - 1) := by
  have hg := S.gt
  rcases S.at' with h | ⟨c, h1, h2, h3, _⟩
  · rw [show n - 1 = q by omega]; exact pth_self ..
  · have he := endOf_is b.types f h1
    have hlt := he.lt
    have hle := he.le
    by_cases e : n - 1 = c
    · rw [e]; exact par_mem h1 (by rw [h2, hq])
    · exact anc_trans _ (he.all (n - 1) (by omega) (by omega)) (par_mem h1 (by rw [h2, hq]))
/-- nothing that has the new item's type is above what comes behind it, within what stands ahead -/
theorem Spot.free {q k : Nat} (hq : q < n) (hk : n ≤ k) (hkl : k < f.length) (hm : (q : Int) ∈ pth b.types f k) (ht : Code.typ f (q : Int) = t) : False := by
  have R := S.R
  have hg := S.gt
  have hnl : n < f.length := by omega
  have m1 := way_between (Nat.le_refl _) R.ok k hkl (q : Int) hm (n - 1) (by omega) (by omega)
  have mn := way_between (Nat.le_refl _) R.ok k hkl (q : Int) hm n (by omega) hk
  have hql : q < f.length := by omega
  have hqp : par b.types f q = p := by
    obtain ⟨y, ky, ty, hy, hky, _, hty, _⟩ := R.item hql
    have hyt : (ky : Int) = t := by rw [← hky, ← ht, typ_at hy]
    have htp : tpar b.types t = ty.parent := by rw [← hyt, tpar_at hty]
    rcases R.par hy hky hty with ⟨a1, a2, a3⟩ | ⟨r, a1, a2, _, a4, _, a6⟩
    · rcases S.typ with ⟨b1, b2⟩ | ⟨b1, b2⟩
      · have := S.lo; omega
      · exfalso
        obtain ⟨u, hu⟩ : ∃ u : Nat, p = (u : Int) := ⟨p.toNat, by omega⟩
        have hul : u < f.length := by have := S.hi; omega
        obtain ⟨z, kz, _, hz, hkz, _⟩ := R.item hul
        rw [hu, typ_at hz, hkz, htp] at b2
        omega
    · rcases S.typ with ⟨b1, b2⟩ | ⟨b1, b2⟩
      · exfalso
        have := (tys_root R.tys hty).2 (by omega)
        omega
      · obtain ⟨u, hu⟩ : ∃ u : Nat, p = (u : Int) := ⟨p.toNat, by omega⟩
        have mu := S.way hu
        have mr : (r : Int) ∈ pth b.types f (n - 1) := anc_trans _ m1 (par_mem hql a1)
        have : r = u := way_inj R (by omega) mr mu (by rw [a6, ← htp, b2, hu])
        omega
  rcases S.at' with h | ⟨c, h1, h2, h3, _⟩
  · have := par_lt b.types f q
    omega
  · have he := endOf_is b.types f h1
    have hlt := he.lt
    have mc : (c : Int) ∈ pth b.types f (n - 1) := by
      by_cases e : n - 1 = c
      · rw [e]; exact pth_self ..
      · exact he.all (n - 1) (by omega) (by omega)
    have hqc : q = c := way_par R (by omega) m1 mc (by rw [hqp, h2])
    subst hqc
    rw [h3] at mn
    exact he.no (by omega) mn
end
/-- the forest with the new item -/
def insX (f : List Item) (t : Int) (d : ByteArray) (n : Nat) : List Item := f.take n ++ ⟨t, d⟩ :: f.drop n
def sg (n k : Nat) : Nat := if k < n then k else k + 1
theorem sg_lt {n k : Nat} (h : k < n) : sg n k = k := if_pos h
theorem sg_ge {n k : Nat} (h : n ≤ k) : sg n k = k + 1 := if_neg (by omega)
theorem sg_mono {n a c : Nat} : sg n a < sg n c ↔ a < c := by
  unfold sg; split <;> split <;> omega
theorem sg_ne {n k : Nat} : sg n k ≠ n := by unfold sg; split <;> omega
theorem sg_of {n j : Nat} (h : j ≠ n) : ∃ k, sg n k = j := by
  by_cases hj : j < n
  · exact ⟨j, sg_lt hj⟩
  · exact ⟨j - 1, by rw [sg_ge (by omega)]; omega⟩
section
variable {f : List Item} {t : Int} {d : ByteArray} {n : Nat} (hn : n ≤ f.length)
include hn
theorem insX_new : (insX f t d n)[n]? = some ⟨t, d⟩ := by
  unfold insX
  rw [List.getElem?_append_right (by rw [List.length_take]; omega), List.length_take, show n - min n f.length = 0 by omega]; rfl
theorem insX_old (k : Nat) : (insX f t d n)[sg n k]? = f[k]? := by
  unfold insX
  by_cases h : k < n
  · rw [sg_lt h, List.getElem?_append_left (by simp; omega), List.getElem?_take, if_pos h]
  · rw [sg_ge (by omega), List.getElem?_append_right (by simp; omega), List.length_take, show k + 1 - min n f.length = (k - n) + 1 by omega, List.getElem?_cons_succ, List.getElem?_drop]
    congr 1
    omega
theorem insX_len : (insX f t d n).length = f.length + 1 := by simp [insX]; omega
theorem typ_old (k : Nat) : typ (insX f t d n) (sg n k : Int) = typ f (k : Int) := by
  unfold typ
  rw [Int.toNat_natCast, Int.toNat_natCast, insX_old hn]
theorem dat_old (k : Nat) : dat (insX f t d n) (sg n k : Int) = dat f (k : Int) := by
  unfold dat
  rw [Int.toNat_natCast, Int.toNat_natCast, insX_old hn]
end
section
variable {b : Base} {f : List Item} {p t : Int} {d : ByteArray} {n : Nat} (S : Spot b f p t d n)
include S
theorem Spot.par' {k : Nat} (hk : k < f.length) : (par b.types f k = -1 ∧ par b.types (insX f t d n) (sg n k) = -1) ∨ ∃ q : Nat, par b.types f k = (q : Int) ∧ q < k ∧ par b.types (insX f t d n) (sg n k) = (sg n q : Int) := by
  have R := S.R
  have hn := S.le
  obtain ⟨x, kx, u, hx, hkx, _, hu, _⟩ := R.item hk
  have htp : tpar b.types (Code.typ (insX f t d n) (sg n k : Int)) = u.parent := by rw [typ_old hn, typ_at hx, hkx, tpar_at hu]
  rcases R.par hx hkx hu with ⟨h1, h2, hk0⟩ | ⟨q, h1, h2, _, h4, h5, h6⟩
  · exact .inl ⟨h2, by unfold Code.par; rw [htp, if_pos h1]⟩
  · refine .inr ⟨q, h1, h2, ?_⟩
    unfold Code.par
    rw [htp, if_neg (by omega)]
    refine lastTo_is (by rw [typ_old hn, h6]) _ (sg_mono.2 h2) fun j' h10 h11 he => ?_
    by_cases hj : j' = n
    · subst hj
      have hqn : q < j' := by
        apply Classical.byContradiction
        intro hc
        rw [sg_ge (by omega)] at h10; omega
      have hkn : j' ≤ k := by
        apply Classical.byContradiction
        intro hc
        rw [sg_lt (by omega)] at h11; omega
      rw [typ_at (insX_new hn)] at he
      simp only at he
      exact S.free hqn hkn hk (par_mem hk h1) (by rw [h6, ← he])
    · obtain ⟨j, rfl⟩ := sg_of hj
      rw [typ_old hn] at he
      have hpar : Code.par b.types f k = lastTo f u.parent k := by unfold Code.par; rw [typ_at hx, hkx, tpar_at hu, if_neg (by omega)]
      exact lastTo_past k j (p := u.parent) (f := f) (by rw [← hpar, h1]; have := sg_mono.1 h10; omega) (sg_mono.1 h11) he
theorem Spot.parN : par b.types (insX f t d n) n = p := by
  have R := S.R
  have hn := S.le
  have hg := S.gt
  unfold Code.par
  rw [typ_at (insX_new hn)]
  simp only
  rcases S.typ with ⟨b1, b2⟩ | ⟨b1, b2⟩
  · obtain ⟨k, ty, hk, _, hty, _⟩ := fits_some S.fit
    simp only at hk
    have hk0 : k = 0 := by omega
    have : ty.parent < 0 := (tys_root R.tys hty).2 hk0
    rw [show tpar b.types t = ty.parent by rw [hk, tpar_at hty], if_pos this]
    have := S.lo; omega
  · obtain ⟨u, rfl⟩ : ∃ u : Nat, p = (u : Int) := ⟨p.toNat, by omega⟩
    have hul : u < f.length := by have := S.hi; omega
    obtain ⟨z, kz, _, hz, hkz, _⟩ := R.item hul
    rw [if_neg (by rw [b2, typ_at hz, hkz]; omega)]
    have hun : u < n := by omega
    have hsu : sg n u = u := sg_lt hun
    refine lastTo_is (by rw [← hsu, typ_old hn, b2]) _ hun fun j h1 h2 he => ?_
    have hsj : sg n j = j := sg_lt h2
    rw [← hsj, typ_old hn, b2] at he
    have mu := S.way rfl
    have mj := way_between (Nat.le_refl _) R.ok (n - 1) (by omega) (u : Int) mu j (by omega) (by omega)
    have := way_typ R (by omega) mj (pth_self b.types f j) h1
    omega
theorem Spot.pth' : ∀ (m k : Nat), k ≤ m → k < f.length → pth b.types (insX f t d n) (sg n k) = (pth b.types f k).map fun a => (sg n a.toNat : Int) := by
  have hn := S.le
  have hlx := insX_len (t := t) (d := d) hn
  intro m
  induction m with
  | zero =>
    intro k hk hkl
    have hc : sg n k < (insX f t d n).length := by rw [hlx]; unfold sg; split <;> omega
    rcases S.par' hkl with ⟨h1, h2⟩ | ⟨q, h1, h2, _⟩
    · rw [pth_eq _ _ hkl, pth_eq _ _ hc, h1, h2, pthI_neg _ _ (by omega), pthI_neg _ _ (by omega)]; simp
    · omega
  | succ m ih =>
    intro k hk hkl
    have hc : sg n k < (insX f t d n).length := by rw [hlx]; unfold sg; split <;> omega
    rcases S.par' hkl with ⟨h1, h2⟩ | ⟨q, h1, h2, h3⟩
    · rw [pth_eq _ _ hkl, pth_eq _ _ hc, h1, h2, pthI_neg _ _ (by omega), pthI_neg _ _ (by omega)]; simp
    · rw [pth_eq _ _ hkl, pth_eq _ _ hc, h1, h3, pthI_nat, pthI_nat, ih q (by omega) (by omega)]; simp
end
end Go.Proofs.Ytcbmakanokmdjaa.Code

/- plain: a forest with a new item is a forest (mathematics). -/
set_option linter.unusedSimpArgs false
set_option linter.unusedVariables false
namespace Go.Proofs.Ytcbmakanokmdjaa.Code
open Go.Proofs.Ytcbmakanokmdjaa.Ev

theorem pth_pre {ts : List Ty} {f : List Item} {j r : Nat} (hj : j < f.length) (h : (r : Int) ∈ pth ts f j) : (pth ts f j).take (pth ts f r).length = pth ts f r ∧ (pth ts f r).length ≤ (pth ts f j).length := by
  obtain ⟨i, hi⟩ := List.getElem?_of_mem h
  have hl := (List.getElem?_eq_some_iff.1 hi).1
  have ht := take_anc (pts ts f) (good_pts ts f) (by rw [pts_len]; exact Nat.le_refl _) j j (Nat.le_refl _) hj i (r : Int) hi
  rw [Int.toNat_natCast] at ht
  change (pth ts f j).take (i + 1) = pth ts f r at ht
  have hlen : (pth ts f r).length = i + 1 := by rw [← ht, List.length_take]; omega
  rw [hlen]
  exact ⟨ht, by omega⟩
section
variable {b : Base} {f : List Item} {p t : Int} {d : ByteArray} {n : Nat} (S : Spot b f p t d n)
include S
/-- the way of the place begins with the parent's path -/
theorem Spot.pre : (Code.way b.types f n).take (pthI b.types f p).length = pthI b.types f p := by
  have hg := S.gt
  by_cases h0 : p < 0
  · rw [pthI_neg _ _ h0]; rfl
  · obtain ⟨u, hu⟩ : ∃ u : Nat, p = (u : Int) := ⟨p.toNat, by omega⟩
    have hm := S.way hu
    obtain ⟨m, hm1⟩ : ∃ m, n = m + 1 := ⟨n - 1, by omega⟩
    rw [hu, pthI_nat, hm1]
    change (pth b.types f m).take _ = _
    rw [hm1] at hm
    have hle := S.le
    exact (pth_pre (by omega) hm).1
/-- the way of the place at the depth of the new item -/
theorem Spot.sib : (Code.way b.types f n)[(pthI b.types f p).length]? = none ∨ ∃ c : Nat, (Code.way b.types f n)[(pthI b.types f p).length]? = some (c : Int) ∧ c < f.length ∧ par b.types f c = p ∧ front b f t (keyOf (tyOf b.types t) d) c = true := by
  have hg := S.gt
  rcases S.at' with h | ⟨c, h1, h2, h3, h4⟩
  · left
    by_cases h0 : p < 0
    · have hn0 : n = 0 := by have := S.lo; omega
      rw [hn0]; rfl
    · obtain ⟨u, hu⟩ : ∃ u : Nat, p = (u : Int) := ⟨p.toNat, by omega⟩
      have hnu : n = u + 1 := by omega
      rw [hnu, hu, pthI_nat]
      change (pth b.types f u)[_]? = none
      exact List.getElem?_eq_none (Nat.le_refl _)
  · right
    refine ⟨c, ?_, h1, h2, h4⟩
    have he := endOf_is b.types f h1
    have hlt := he.lt
    have hle := he.le
    obtain ⟨m, hm⟩ : ∃ m, n = m + 1 := ⟨n - 1, by omega⟩
    have mc : (c : Int) ∈ pth b.types f m := by
      by_cases e : m = c
      · rw [e]; exact pth_self ..
      · exact he.all m (by omega) (by omega)
    rw [hm]
    change (pth b.types f m)[_]? = _
    obtain ⟨e1, e2⟩ := pth_pre (by omega) mc
    have hc := pth_eq b.types f h1
    rw [h2] at hc
    have hL : (pth b.types f c).length = (pthI b.types f p).length + 1 := by rw [hc]; simp
    have : ((pth b.types f m).take (pth b.types f c).length)[(pthI b.types f p).length]? = some (c : Int) := by rw [e1, hc]; simp
    rw [List.getElem?_take, if_pos (by omega)] at this
    exact this
/-- the parent of what stands at the place is on the parent's path -/
theorem Spot.next' (hn : n < f.length) {r : Nat} (hr : par b.types f n = (r : Int)) : (r : Int) ∈ pthI b.types f p := by
  have R := S.R
  have hg := S.gt
  have hrn : r < n := by have := par_lt b.types f n; omega
  have mr := way_between (Nat.le_refl _) R.ok n hn (r : Int) (par_mem hn hr) (n - 1) (by omega) (by omega)
  rcases S.at' with h | ⟨c, h1, h2, h3, h4⟩
  · rw [show p = ((n - 1 : Nat) : Int) by omega, pthI_nat]; exact mr
  · have he := endOf_is b.types f h1
    have hlt := he.lt
    have mc : (c : Int) ∈ pth b.types f (n - 1) := by
      by_cases e : n - 1 = c
      · rw [e]; exact pth_self ..
      · exact he.all (n - 1) (by omega) (by omega)
    have hno : (c : Int) ∉ pth b.types f n := by
      have := he.no (by omega)
      rw [← h3] at this
      exact this
    have hrc : r < c := by
      apply Classical.byContradiction
      intro hc
      have := way_between (Nat.le_refl _) R.ok (n - 1) (by omega) (c : Int) mc r (by omega) (by omega)
      exact hno (anc_trans _ (par_mem hn hr) this)
    have mrc := way_between (Nat.le_refl _) R.ok (n - 1) (by omega) (r : Int) mr c (by omega) (by omega)
    obtain ⟨g1, g2⟩ := mem_par h1 mrc (by omega)
    rw [h2] at g1 g2
    obtain ⟨u, hu⟩ : ∃ u : Nat, p = (u : Int) := ⟨p.toNat, by omega⟩
    rw [hu, pthI_nat]
    rw [hu, Int.toNat_natCast] at g2
    exact g2
theorem Spot.pthIx {a : Int} (ha : a = -1 ∨ ∃ q : Nat, a = (q : Int) ∧ q < f.length) : pthI b.types (insX f t d n) (if a < 0 then a else (sg n a.toNat : Int)) = (pthI b.types f a).map fun a => (sg n a.toNat : Int) := by
  rcases ha with rfl | ⟨q, rfl, hq⟩
  · rw [if_pos (by omega), pthI_neg _ _ (by omega), pthI_neg _ _ (by omega)]; rfl
  · rw [if_neg (by omega), Int.toNat_natCast, pthI_nat, pthI_nat, S.pth' q q (Nat.le_refl _) hq]
theorem Spot.sgp : (if p < 0 then p else (sg n p.toNat : Int)) = p := by
  have hg := S.gt
  split
  · rfl
  · rw [sg_lt (by omega)]; omega
theorem Spot.pthN : pth b.types (insX f t d n) n = (pthI b.types f p).map (fun a => (sg n a.toNat : Int)) ++ [(n : Int)] := by
  have hlx := insX_len (t := t) (d := d) S.le
  have hle := S.le
  have h := S.pthIx (a := p) (by
    have := S.lo
    by_cases h0 : p < 0
    · exact .inl (by omega)
    · exact .inr ⟨p.toNat, by omega, by have := S.hi; omega⟩)
  rw [S.sgp] at h
  rw [pth_eq _ _ (by omega), S.parN, h]
theorem Spot.wayX {k : Nat} (hk : k < f.length) (hne : k ≠ n) : Code.way b.types (insX f t d n) (sg n k) = (Code.way b.types f k).map fun a => (sg n a.toNat : Int) := by
  cases k with
  | zero => rw [sg_lt (by omega)]; rfl
  | succ k =>
    have h := S.pth' k k (Nat.le_refl _) (by omega)
    by_cases hkn : k + 1 < n
    · rw [sg_lt hkn]
      rw [sg_lt (by omega)] at h
      exact h
    · rw [sg_ge (by omega)]
      rw [sg_ge (by omega)] at h
      exact h
theorem Spot.wayN : Code.way b.types (insX f t d n) n = (Code.way b.types f n).map fun a => (sg n a.toNat : Int) := by
  have hle := S.le
  obtain ⟨m, hm⟩ | h0 : (∃ m, n = m + 1) ∨ n = 0 := by
    cases n with
    | zero => exact .inr rfl
    | succ m => exact .inl ⟨m, rfl⟩
  · have h := S.pth' m m (Nat.le_refl _) (by omega)
    rw [sg_lt (by omega)] at h
    have ew : ∀ (N : Nat) (g : List Item), N = m + 1 → Code.way b.types g N = pth b.types g m := fun N g h => by subst h; rfl
    have e1 := ew n (insX f t d n) hm
    have e2 := ew n f hm
    rw [e1, e2, h]
  · rw [h0]; rfl
end
end Go.Proofs.Ytcbmakanokmdjaa.Code

/- plain: a forest with a new item is a forest, and the item is a leaf (mathematics). -/
set_option linter.unusedSimpArgs false
set_option linter.unusedVariables false
namespace Go.Proofs.Ytcbmakanokmdjaa.Code
open Go.Proofs.Ytcbmakanokmdjaa.Ev

section
variable {b : Base} {f : List Item} {p t : Int} {d : ByteArray} {n : Nat} (S : Spot b f p t d n)
include S
theorem Spot.ord_old {x : Item} {a : Nat} : ordOk b.types (insX f t d n) (sg n a : Int) x = ordOk b.types f (a : Int) x := by
  unfold ordOk
  rw [typ_old S.le, dat_old S.le]
theorem Spot.ordN {x : Item} (hn : n < f.length) (hx : f[n]? = some x) (hp : par b.types f n = p) : ordOk b.types (insX f t d n) (n : Int) x = true := by
  have hf := S.next hn hp
  have h1 := S.one
  simp only [front, Bool.or_eq_false_iff, Bool.and_eq_false_iff, decide_eq_false_iff_not, typ_at hx] at hf
  obtain ⟨q1, q2⟩ := hf
  have hkx : kKey b f t n = keyOf (tyOf b.types t) x.data := by unfold kKey; rw [dat_at hx]
  simp only [ordOk, typ_at (insX_new S.le), dat_at (insX_new S.le), Bool.or_eq_true, Bool.and_eq_true, decide_eq_true_eq]
  by_cases hlt : t < x.type
  · exact .inl hlt
  · have he : t = x.type := by omega
    refine .inr ⟨he, ?_⟩
    rw [← he]
    rcases q2 with q2 | q2
    · exact absurd he.symm q2
    · rw [hkx] at q2
      obtain ⟨q3, q4⟩ := q2
      have htri := bLt_tri (keyOf (tyOf b.types t) d) (keyOf (tyOf b.types t) x.data)
      rw [q3] at htri
      simp only [Bool.not_false, Bool.or_eq_true, decide_eq_true_eq] at htri
      simp only [inOrd, Bool.or_eq_true, Bool.and_eq_true, decide_eq_true_eq, Bool.not_eq_true']
      rcases htri with h | h
      · exact .inl (.inr h)
      · refine .inr ⟨h, ?_⟩
        cases hu : (tyOf b.types t).unique with
        | false => rfl
        | true => exact absurd (by rw [hkx, h]) (h1 hu n hn hp (by rw [typ_at hx]; exact he.symm))
theorem Spot.ordC {c : Nat} (hc : c < f.length) (hp : par b.types f c = p) (hf : front b f t (keyOf (tyOf b.types t) d) c = true) : ordOk b.types (insX f t d n) (sg n c : Int) ⟨t, d⟩ = true := by
  have h1 := S.one
  rw [S.ord_old]
  simp only [front, Bool.or_eq_true, Bool.and_eq_true, decide_eq_true_eq] at hf
  simp only [ordOk, Bool.or_eq_true, Bool.and_eq_true, decide_eq_true_eq]
  rcases hf with hf | ⟨hf, hk⟩
  · exact .inl hf
  · refine .inr ⟨hf, ?_⟩
    simp only [inOrd, Bool.or_eq_true, Bool.and_eq_true, decide_eq_true_eq, Bool.not_eq_true']
    rcases hk with hk | ⟨hk, _⟩
    · exact .inl (.inr hk)
    · refine .inr ⟨hk, ?_⟩
      cases hu : (tyOf b.types t).unique with
      | false => rfl
      | true => exact absurd hk (h1 hu c hc hp hf)
theorem Spot.okOld {k : Nat} {x : Item} (hx : f[k]? = some x) : okAt b.types (insX f t d n) (sg n k) x = true := by
  have R := S.R
  have hk := (List.getElem?_eq_some_iff.1 hx).1
  have hok := R.ok k x hk hx
  have hle := S.le
  simp only [okAt, Bool.and_eq_true] at hok ⊢
  obtain ⟨⟨hft, hpk⟩, hsb⟩ := hok
  have hpc := S.par' hk
  have hno : nOf b.types (insX f t d n) (sg n k) = nOf b.types f k := by
    unfold nOf
    rcases hpc with ⟨h1, h2⟩ | ⟨q, h1, h2, h3⟩
    · rw [h1, h2, pthI_neg _ _ (by omega), pthI_neg _ _ (by omega)]
    · rw [h1, h3, pthI_nat, pthI_nat, S.pth' q q (Nat.le_refl _) (by omega), List.length_map]
  refine ⟨⟨hft, ?_⟩, ?_⟩
  · rcases hpc with ⟨h1, h2⟩ | ⟨q, h1, h2, h3⟩
    · have hno' : Code.par b.types f k ∉ Code.way b.types f k := fun h => by have := way_bound h; omega
      rw [tell_neg hno', Bool.or_false] at hpk
      rw [hpk]; rfl
    · have hm := ok_par hx (R.ok k x hk hx) (by omega)
      rw [h1] at hm
      rw [h3]
      have : tell ((sg n q : Int) ∈ Code.way b.types (insX f t d n) (sg n k)) = true := by
        refine tell_pos ?_
        by_cases hkn : k = n
        · subst hkn
          rw [sg_ge (Nat.le_refl _)]
          change (sg k q : Int) ∈ pth b.types (insX f t d k) k
          rw [S.pthN]
          exact List.mem_append_left _ (List.mem_map.2 ⟨_, S.next' hk h1, by simp⟩)
        · rw [S.wayX hk hkn]
          exact List.mem_map.2 ⟨_, hm, by simp⟩
      rw [this]; simp
  · unfold sibOk
    rw [hno]
    by_cases hkn : k = n
    · subst hkn
      rw [sg_ge (Nat.le_refl _)]
      change (match (pth b.types (insX f t d k) k)[nOf b.types f k]? with
        | some a => ordOk b.types (insX f t d k) a x
        | none => true) = true
      rw [S.pthN]
      rcases Nat.lt_trichotomy (nOf b.types f k) (pthI b.types f p).length with h | h | h
      · rw [List.getElem?_append_left (by simpa using h), List.getElem?_map]
        have hpre := S.pre
        have e : (pthI b.types f p)[nOf b.types f k]? = (Code.way b.types f k)[nOf b.types f k]? := by
          conv => lhs; rw [← hpre]
          rw [List.getElem?_take, if_pos h]
        rw [e]
        unfold sibOk at hsb
        cases ha : (Code.way b.types f k)[nOf b.types f k]? with
        | none => rfl
        | some a =>
          rw [ha] at hsb
          have hb := way_bound (List.mem_of_getElem? ha)
          obtain ⟨q, rfl⟩ : ∃ q : Nat, a = (q : Int) := ⟨a.toNat, by omega⟩
          simp only [Option.map_some, Int.toNat_natCast]
          rw [S.ord_old]
          exact hsb
      · rw [List.getElem?_append_right (by simp; omega), List.length_map, h, Nat.sub_self]
        simp only [List.getElem?_cons_zero]
        refine S.ordN hk hx ?_
        unfold nOf at h
        rcases hpc with ⟨h1, h2⟩ | ⟨q, h1, h2, h3⟩
        · rw [h1, pthI_neg _ _ (by omega)] at h
          by_cases h0 : p < 0
          · have := S.lo; omega
          · obtain ⟨u, hu⟩ : ∃ u : Nat, p = (u : Int) := ⟨p.toNat, by omega⟩
            rw [hu, pthI_nat] at h
            have := List.length_pos_of_mem (pth_self b.types f u)
            simp at h; omega
        · have hm := S.next' hk h1
          rw [h1]
          by_cases h0 : p < 0
          · rw [pthI_neg _ _ h0] at hm; cases hm
          · obtain ⟨u, hu⟩ : ∃ u : Nat, p = (u : Int) := ⟨p.toNat, by omega⟩
            have hul : u < f.length := by have := S.hi; omega
            rw [h1, hu, pthI_nat, pthI_nat] at h
            rw [hu, pthI_nat] at hm
            obtain ⟨e1, e2⟩ := pth_pre hul hm
            rw [h, List.take_length] at e1
            rw [hu]
            refine pthI_inj (ts := b.types) (f := f) (by omega) (by omega) ?_
            rw [pthI_nat, pthI_nat, e1]
      · rw [List.getElem?_eq_none (by simp; omega)]
    · rw [S.wayX hk hkn, List.getElem?_map]
      unfold sibOk at hsb
      cases ha : (Code.way b.types f k)[nOf b.types f k]? with
      | none => rfl
      | some a =>
        rw [ha] at hsb
        have hb := way_bound (List.mem_of_getElem? ha)
        obtain ⟨q, rfl⟩ : ∃ q : Nat, a = (q : Int) := ⟨a.toNat, by omega⟩
        simp only [Option.map_some, Int.toNat_natCast]
        rw [S.ord_old]
        exact hsb
theorem Spot.okNew : okAt b.types (insX f t d n) n ⟨t, d⟩ = true := by
  have R := S.R
  have hle := S.le
  have hg := S.gt
  simp only [okAt, Bool.and_eq_true]
  refine ⟨⟨S.fit, ?_⟩, ?_⟩
  · rw [S.parN]
    by_cases h0 : p < 0
    · rcases S.typ with ⟨b1, b2⟩ | ⟨b1, b2⟩
      · obtain ⟨k, ty, hk, _, hty, _⟩ := fits_some S.fit
        simp only at hk
        have : ty.parent < 0 := (tys_root R.tys hty).2 (by omega)
        rw [show tpar b.types t = ty.parent by rw [hk, tpar_at hty], decide_eq_true this]; rfl
      · omega
    · obtain ⟨u, hu⟩ : ∃ u : Nat, p = (u : Int) := ⟨p.toNat, by omega⟩
      have hm := S.way hu
      have : tell (p ∈ Code.way b.types (insX f t d n) n) = true := by
        refine tell_pos ?_
        rw [S.wayN]
        refine List.mem_map.2 ⟨p, ?_, by rw [hu, Int.toNat_natCast, sg_lt (by omega)]⟩
        rw [hu]
        obtain ⟨m, hm1⟩ : ∃ m, n = m + 1 := ⟨n - 1, by omega⟩
        rw [hm1] at hm ⊢
        exact hm
      rw [this]; simp
  · unfold sibOk
    have hno : nOf b.types (insX f t d n) n = (pthI b.types f p).length := by
      unfold nOf
      have h := S.pthIx (a := p) (by
        have := S.lo
        by_cases h0 : p < 0
        · exact .inl (by omega)
        · exact .inr ⟨p.toNat, by omega, by have := S.hi; omega⟩)
      rw [S.sgp] at h
      rw [S.parN, h, List.length_map]
    rw [hno, S.wayN, List.getElem?_map]
    rcases S.sib with h | ⟨c, h, h1, h2, h3⟩
    · rw [h]; rfl
    · rw [h]
      simp only [Option.map_some, Int.toNat_natCast]
      exact S.ordC h1 h2 h3
theorem Spot.right (hl : f.length < 200) : Right b (insX f t d n) := by
  refine ⟨S.R.base, S.R.valid, ?_⟩
  unfold forestOk
  rw [decide_eq_true (by rw [insX_len S.le]; omega), Bool.true_and]
  refine tell_pos fun j y hy => ?_
  by_cases hj : j = n
  · subst hj
    rw [insX_new S.le] at hy; cases hy
    exact S.okNew
  · obtain ⟨k, rfl⟩ := sg_of hj
    rw [insX_old S.le] at hy
    exact S.okOld hy
/-- the new item is a leaf -/
theorem Spot.leaf : endOf b.types (insX f t d n) n = n + 1 := by
  have hle := S.le
  have hlx := insX_len (t := t) (d := d) S.le
  refine IsEnd.uniq (endOf_is b.types (insX f t d n) (i := n) (by omega)) ⟨by omega, by omega, fun k h1 h2 => by omega, fun hl hm => ?_⟩
  have hn : n < f.length := by omega
  have h := S.pth' n n (Nat.le_refl _) hn
  rw [sg_ge (Nat.le_refl _)] at h
  rw [h] at hm
  obtain ⟨a, _, ha⟩ := List.mem_map.1 hm
  have := @sg_ne n a.toNat
  omega
theorem Spot.back : (insX f t d n).take n ++ (insX f t d n).drop (n + 1) = f := by
  have hle := S.le
  unfold insX
  rw [List.take_left' (by rw [List.length_take]; omega)]
  have e : f.take n ++ ⟨t, d⟩ :: f.drop n = (f.take n ++ [⟨t, d⟩]) ++ f.drop n := by simp
  rw [e, List.drop_left' (by rw [List.length_append, List.length_take]; simp; omega), List.take_append_drop]
end
end Go.Proofs.Ytcbmakanokmdjaa.Code

