/- Texts of ours, joined into one file; each begins with its own remark. -/
import Derived.Test.YtbchmbddcdionaaU1
import Derived.Test.YtbchmbddcdionaaEvR
import Derived.Test.YtbchmbddcdionaaEvZ
import Derived.Test.YtbchmbddcdionaaWe
import Derived.Test.YtbchmbddcdionaaEvU
import Derived.Test.YtbchmbddcdionaaWa
import Derived.Test.YtbchmbddcdionaaWbp
import Derived.Test.YtbchmbddcdionaaWbl
import Derived.Test.YtbchmbddcdionaaWbv
import Derived.Test.YtbchmbddcdionaaWcp
import Derived.Test.YtbchmbddcdionaaWcl
import Derived.Test.YtbchmbddcdionaaWcv
import Derived.Test.YtbchmbddcdionaaWdp
import Derived.Test.YtbchmbddcdionaaWdl
import Derived.Test.YtbchmbddcdionaaWdv
import Derived.Test.YtbchmbddcdionaaXa
import Derived.Test.YtbchmbddcdionaaXbp
import Derived.Test.YtbchmbddcdionaaXbl
import Derived.Test.YtbchmbddcdionaaXbv
import Derived.Test.YtbchmbddcdionaaXcp
import Derived.Test.YtbchmbddcdionaaXcl
import Derived.Test.YtbchmbddcdionaaXcv
import Derived.Test.YtbchmbddcdionaaXdp
import Derived.Test.YtbchmbddcdionaaXdl
import Derived.Test.YtbchmbddcdionaaXdv
/- plain: which lists are forests, as the document asks. -/
set_option linter.unusedSimpArgs false
set_option linter.unusedVariables false
namespace Go.Proofs.Ytbchmbddcdionaa.Code
open Go.Proofs.Ytbchmbddcdionaa.Ev

theorem k92 (b : Base) (f : List Item) (hl : f.length ≤ 1000) (H : Heap) (b1 : Nat) (hs1 : Sits H b1 (bBase b)) (st : St) (G : Heap) (hE : keepEnv st.1 [1, 2, 5] = [(1, eItems f), (2, .ptr b1 0 4 0 0), (5, .int .i64 0)]) (hH : st.2 = H ++ ([] ++ G)) (z : Option (CX × St)) (hz : itLim (evCode (evC cprog) itLim c92_l0) st = z) :
    (f.all (fits b.types) = true ∧ Lv H [] (fun c T => c = .exit 0 ∧ keepEnv T [1, 2] = [(1, eItems f), (2, .ptr b1 0 4 0 0)]) z) ∨ (f.all (fits b.types) = false ∧ Lv H [] (fun c T => c = .ret ∧ get T 4 = some (.bool false)) z) := by
  have hlen := (sItems [] f).len
  have hlen' := (sTys [] b.types).len
  simp only [List.length_map] at hlen hlen'
  have hs := hs1
  simp only [bBase, Sits] at hs
  exact all_rule f (fits b.types) [1, 2, 5] (fun i => [(1, eItems f), (2, .ptr b1 0 4 0 0), (5, .int .i64 (i : Int))]) H [] (evCode (evC cprog) itLim c92_l0) _ _
    (fun i x hx E G hE => by
      have hlt : i < f.length := (List.getElem?_eq_some_iff.1 hx).1
      have hi : (i : Int) < (f.length : Int) := by omega
      have ha := aItem hx
      have hw := wrapS hlt (by omega)
      by_cases h1 : x.type < 0
      · simp only [c92_l0, hE, hi, hs, ha, hlen, h1, rItem, evX, Int.reduceEq, Int.reduceLT, Int.reduceLE, Nat.reduceMul, Nat.reduceMod, evW, fn_eq, evR, Nat.reduceAdd, Nat.reduceLT, Nat.reduceLeDiff, reduceIte, Nat.reduceEqDiff, reduceCtorEq, argEnv, eq_self, if_true, if_false]
        repeat' ((first | rw [guardK_cases] | rw [condK_bool] | rw [guardD_cases]); split <;> simp only [c92_l0, hE, hi, hs, ha, hlen, h1, rItem, evX, Int.reduceEq, Int.reduceLT, Int.reduceLE, Nat.reduceMul, Nat.reduceMod, evW, evR, Nat.reduceAdd, Nat.reduceLT, Nat.reduceLeDiff, reduceIte, Nat.reduceEqDiff, reduceCtorEq, argEnv, eq_self, if_true, if_false, *])
        exact Sc.ret (fits_none (by omega)) ⟨rfl, by rfl⟩
      by_cases h2 : (b.types.length : Int) ≤ x.type
      · simp only [c92_l0, hE, hi, hs, ha, hlen, hlen', h1, h2, rItem, evX, Int.reduceEq, Int.reduceLT, Int.reduceLE, Nat.reduceMul, Nat.reduceMod, evW, fn_eq, evR, Nat.reduceAdd, Nat.reduceLT, Nat.reduceLeDiff, reduceIte, Nat.reduceEqDiff, reduceCtorEq, argEnv, eq_self, if_true, if_false]
        repeat' ((first | rw [guardK_cases] | rw [condK_bool] | rw [guardD_cases]); split <;> simp only [c92_l0, hE, hi, hs, ha, hlen, hlen', h1, h2, rItem, evX, Int.reduceEq, Int.reduceLT, Int.reduceLE, Nat.reduceMul, Nat.reduceMod, evW, evR, Nat.reduceAdd, Nat.reduceLT, Nat.reduceLeDiff, reduceIte, Nat.reduceEqDiff, reduceCtorEq, argEnv, eq_self, if_true, if_false, *])
        exact Sc.ret (fits_none (by omega)) ⟨rfl, by rfl⟩
      obtain ⟨k, hk⟩ : ∃ k : Nat, x.type = (k : Int) := ⟨x.type.toNat, by omega⟩
      obtain ⟨t, ht⟩ : ∃ t, b.types[k]? = some t := ⟨_, List.getElem?_eq_getElem (by omega)⟩
      have hat := aTy ht
      rw [← hk] at hat
      by_cases h3 : (x.data.size : Int) < t.min
      · simp only [c92_l0, hE, hi, hs, ha, hat, hlen, hlen', h1, h2, h3, rItem, rTy, evX, Int.reduceEq, Int.reduceLT, Int.reduceLE, Nat.reduceMul, Nat.reduceMod, evW, fn_eq, evR, Nat.reduceAdd, Nat.reduceLT, Nat.reduceLeDiff, reduceIte, Nat.reduceEqDiff, reduceCtorEq, argEnv, eq_self, if_true, if_false]
        repeat' ((first | rw [guardK_cases] | rw [condK_bool] | rw [guardD_cases]); split <;> simp only [c92_l0, hE, hi, hs, ha, hat, hlen, hlen', h1, h2, h3, rItem, rTy, evX, Int.reduceEq, Int.reduceLT, Int.reduceLE, Nat.reduceMul, Nat.reduceMod, evW, evR, Nat.reduceAdd, Nat.reduceLT, Nat.reduceLeDiff, reduceIte, Nat.reduceEqDiff, reduceCtorEq, argEnv, eq_self, if_true, if_false, *])
        exact Sc.ret (by rw [fits_at hk ht, decide_eq_false (by omega)]; rfl) ⟨rfl, by rfl⟩
      by_cases h4 : t.size < (x.data.size : Int)
      · simp only [c92_l0, hE, hi, hs, ha, hat, hlen, hlen', h1, h2, h3, h4, rItem, rTy, evX, Int.reduceEq, Int.reduceLT, Int.reduceLE, Nat.reduceMul, Nat.reduceMod, evW, fn_eq, evR, Nat.reduceAdd, Nat.reduceLT, Nat.reduceLeDiff, reduceIte, Nat.reduceEqDiff, reduceCtorEq, argEnv, eq_self, if_true, if_false]
        repeat' ((first | rw [guardK_cases] | rw [condK_bool] | rw [guardD_cases]); split <;> simp only [c92_l0, hE, hi, hs, ha, hat, hlen, hlen', h1, h2, h3, h4, rItem, rTy, evX, Int.reduceEq, Int.reduceLT, Int.reduceLE, Nat.reduceMul, Nat.reduceMod, evW, evR, Nat.reduceAdd, Nat.reduceLT, Nat.reduceLeDiff, reduceIte, Nat.reduceEqDiff, reduceCtorEq, argEnv, eq_self, if_true, if_false, *])
        exact Sc.ret (by rw [fits_at hk ht, decide_eq_false (show ¬ (x.data.size : Int) ≤ t.size by omega), Bool.and_false]) ⟨rfl, by rfl⟩
      · simp only [c92_l0, hE, hi, hs, ha, hat, hlen, hlen', h1, h2, h3, h4, hw, rItem, rTy, evX, Int.reduceEq, Int.reduceLT, Int.reduceLE, Nat.reduceMul, Nat.reduceMod, evW, fn_eq, evR, Nat.reduceAdd, Nat.reduceLT, Nat.reduceLeDiff, reduceIte, Nat.reduceEqDiff, reduceCtorEq, argEnv, eq_self, if_true, if_false]
        repeat' ((first | rw [guardK_cases] | rw [condK_bool] | rw [guardD_cases]); split <;> simp only [c92_l0, hE, hi, hs, ha, hat, hlen, hlen', h1, h2, h3, h4, hw, rItem, rTy, evX, Int.reduceEq, Int.reduceLT, Int.reduceLE, Nat.reduceMul, Nat.reduceMod, evW, evR, Nat.reduceAdd, Nat.reduceLT, Nat.reduceLeDiff, reduceIte, Nat.reduceEqDiff, reduceCtorEq, argEnv, eq_self, if_true, if_false, *])
        exact Sc.next (by rw [fits_at hk ht, decide_eq_true (by omega), decide_eq_true (by omega)]; rfl) (by rfl))
    (fun E G hE => by
      simp only [c92_l0, hE, hlen, Int.lt_irrefl, evX, Int.reduceEq, Int.reduceLT, Int.reduceLE, Nat.reduceMul, Nat.reduceMod, evW, fn_eq, evR, Nat.reduceAdd, Nat.reduceLT, Nat.reduceLeDiff, reduceIte, Nat.reduceEqDiff, reduceCtorEq, argEnv, eq_self, if_true, if_false]
      repeat' ((first | rw [guardK_cases] | rw [condK_bool] | rw [guardD_cases]); split <;> simp only [c92_l0, hE, hlen, Int.lt_irrefl, evX, Int.reduceEq, Int.reduceLT, Int.reduceLE, Nat.reduceMul, Nat.reduceMod, evW, evR, Nat.reduceAdd, Nat.reduceLT, Nat.reduceLeDiff, reduceIte, Nat.reduceEqDiff, reduceCtorEq, argEnv, eq_self, if_true, if_false, *])
      exact .exit (K := []) ⟨rfl, by rfl⟩) st G hE hH z hz
theorem m92 (b : Base) (ht : tysOk b.types = true) (f : List Item) (hfit : AllFit b.types f) (hl : f.length ≤ 1000) (H : Heap) (b1 : Nat) (hs1 : Sits H b1 (bBase b)) (st : St) (G : Heap) (hE : keepEnv st.1 [1, 2, 6] = [(1, eItems f), (2, .ptr b1 0 4 0 0), (6, .int .i64 0)]) (hH : st.2 = H ++ ([] ++ G)) (z : Option (CX × St)) (hz : itLim (evCode (evC cprog) itLim c92_l2) st = z) :
    (tell (∀ (i : Nat) (x : Item), f[i]? = some x → okAt b.types f i x = true) = true ∧ Lv H [] (fun c T => c = .exit 2) z) ∨ (tell (∀ (i : Nat) (x : Item), f[i]? = some x → okAt b.types f i x = true) = false ∧ Lv H [] (fun c T => c = .ret ∧ get T 4 = some (.bool false)) z) := by
  have hlen := (sItems [] f).len
  simp only [List.length_map] at hlen
  have hs := hs1
  simp only [bBase, Sits] at hs
  have L := scan_pre f (okAt b.types f) [1, 2, 6] (fun i => [(1, eItems f), (2, .ptr b1 0 4 0 0), (6, .int .i64 (i : Int))]) H [] (evCode (evC cprog) itLim c92_l2) (fun c T => c = .exit 2) (fun _ _ c T => c = .ret ∧ get T 4 = some (.bool false))
    (fun i x hx hpre E G hE => by
      have hlt : i < f.length := (List.getElem?_eq_some_iff.1 hx).1
      have hi : (i : Int) < (f.length : Int) := by omega
      have ha := aItem hx
      have hw := wrapS hlt (by omega)
      have hft := hfit i x hx
      obtain ⟨k, t, hk, hkl, htk, hmin, hmax⟩ := fits_some hft
      have hat := aTy htk
      rw [← hk] at hat
      have hpt : tpar b.types x.type = t.parent := by rw [hk, tpar_at htk]
      have hty : tyOk t = true := by have := tell_true.1 ht k t htk; simp only [tyAt, Bool.and_eq_true] at this; exact this.1.1.1
      have htyo : tyOf b.types x.type = t := by rw [hk, tyOf_at htk]
      have h64 := f82 b f i x hx k t hk htk hl
      simp only [eBase] at h64
      have hb := par_lt b.types f i
      have hwm : IntKind.i64.wrap ((i : Int) - 1) = (i : Int) - 1 := wrap_i64 (by omega) (by omega)
      by_cases hA : par b.types f i < 0 ∧ x.type ≠ 0
      · obtain ⟨hA1, hA2⟩ := hA
        simp only [c92_l2, hE, hi, hs, ha, hlen, h64, hA1, hA2, rItem, evX, Int.reduceEq, Int.reduceLT, Int.reduceLE, Nat.reduceMul, Nat.reduceMod, evW, fn_eq, evR, Nat.reduceAdd, Nat.reduceLT, Nat.reduceLeDiff, reduceIte, Nat.reduceEqDiff, reduceCtorEq, argEnv, eq_self, if_true, if_false]
        repeat' ((first | rw [guardK_cases] | rw [condK_bool] | rw [guardD_cases]); split <;> simp only [c92_l2, hE, hi, hs, ha, hlen, h64, hA1, hA2, rItem, evX, Int.reduceEq, Int.reduceLT, Int.reduceLE, Nat.reduceMul, Nat.reduceMod, evW, evR, Nat.reduceAdd, Nat.reduceLT, Nat.reduceLeDiff, reduceIte, Nat.reduceEqDiff, reduceCtorEq, argEnv, eq_self, if_true, if_false, *])
        refine Sc.ret ?_ ⟨rfl, rfl⟩
        have h1 : ¬ t.parent < 0 := fun h => by have := (tys_root ht htk).1 h; omega
        have h2 : par b.types f i ∉ way b.types f i := fun h => by have := way_bound h; omega
        rw [okAt, hpt, decide_eq_false h1, tell_neg h2]; simp
      have hcont : ∃ u, (decide (par b.types f i < 0) = true ∧ decide (x.type = 0) = true ∧ u = ()) ∨ (decide (par b.types f i < 0) = false ∧ u = ()) := ⟨(), by
        by_cases h : par b.types f i < 0
        · exact .inl ⟨decide_eq_true h, decide_eq_true (Classical.byContradiction fun h' => hA ⟨h, h'⟩), rfl⟩
        · exact .inr ⟨decide_eq_false h, rfl⟩⟩
      obtain ⟨_, ⟨c1, c2, _⟩ | ⟨c1, _⟩⟩ := hcont
      · simp only [c92_l2, hE, hi, hs, ha, hlen, h64, c1, c2, hwm, rItem, evX, Int.reduceEq, Int.reduceLT, Int.reduceLE, Nat.reduceMul, Nat.reduceMod, evW, fn_eq, evR, Nat.reduceAdd, Nat.reduceLT, Nat.reduceLeDiff, reduceIte, Nat.reduceEqDiff, reduceCtorEq, argEnv, eq_self, if_true, if_false]
        repeat' ((first | rw [guardK_cases] | rw [condK_bool] | rw [guardD_cases]); split <;> simp only [c92_l2, hE, hi, hs, ha, hlen, h64, c1, c2, hwm, rItem, evX, Int.reduceEq, Int.reduceLT, Int.reduceLE, Nat.reduceMul, Nat.reduceMod, evW, evR, Nat.reduceAdd, Nat.reduceLT, Nat.reduceLeDiff, reduceIte, Nat.reduceEqDiff, reduceCtorEq, argEnv, eq_self, if_true, if_false, *])
        generalize hz : itLim _ _ = z
        obtain ⟨T, K, rfl, hT, k1, k2, hW⟩ := l92 b f hfit hl i hlt H b1 hs1 (par b.types f i) hb.1 _ G (by rfl) (by rfl) z hz
        rcases hW with ⟨g1, g2⟩ | ⟨g0, ⟨rfl, g1⟩ | ⟨g1, g2⟩⟩
        · simp only [hT, g1, evX, Int.reduceEq, Int.reduceLT, Int.reduceLE, Nat.reduceMul, Nat.reduceMod, evW, fn_eq, evR, Nat.reduceAdd, Nat.reduceLT, Nat.reduceLeDiff, reduceIte, Nat.reduceEqDiff, reduceCtorEq, argEnv, eq_self, if_true, if_false]
          repeat' ((first | rw [guardK_cases] | rw [condK_bool] | rw [guardD_cases]); split <;> simp only [hT, g1, evX, Int.reduceEq, Int.reduceLT, Int.reduceLE, Nat.reduceMul, Nat.reduceMod, evW, evR, Nat.reduceAdd, Nat.reduceLT, Nat.reduceLeDiff, reduceIte, Nat.reduceEqDiff, reduceCtorEq, argEnv, eq_self, if_true, if_false, *])
          refine Sc.ret ?_ ⟨rfl, rfl⟩
          have h1 := (par_typ (ts := b.types) (f := f) (i := i) (by omega)).2
          rw [typ_at hx] at h1
          rw [okAt, decide_eq_false (by omega), tell_neg g2]; simp
        · have hok : (decide (tpar b.types x.type < 0) || tell (par b.types f i ∈ way b.types f i)) = true := by
            rcases g0 with g0 | g0
            · have h0 : x.type = 0 := Classical.byContradiction fun h' => hA ⟨g0, h'⟩
              rw [hpt, decide_eq_true ((tys_root ht htk).2 (by omega))]; rfl
            · rw [tell_pos g0]; simp
          have hsib : sibOk b.types f i x = true := by simp only [sibOk, nOf, g1]
          simp only [hT, Int.lt_irrefl, hw, evX, Int.reduceEq, Int.reduceLT, Int.reduceLE, Nat.reduceMul, Nat.reduceMod, evW, fn_eq, evR, Nat.reduceAdd, Nat.reduceLT, Nat.reduceLeDiff, reduceIte, Nat.reduceEqDiff, reduceCtorEq, argEnv, eq_self, if_true, if_false]
          repeat' ((first | rw [guardK_cases] | rw [condK_bool] | rw [guardD_cases]); split <;> simp only [hT, Int.lt_irrefl, hw, evX, Int.reduceEq, Int.reduceLT, Int.reduceLE, Nat.reduceMul, Nat.reduceMod, evW, evR, Nat.reduceAdd, Nat.reduceLT, Nat.reduceLeDiff, reduceIte, Nat.reduceEqDiff, reduceCtorEq, argEnv, eq_self, if_true, if_false, *])
          exact Sc.next (by rw [okAt, hft, hok, hsib]; rfl) (by rfl)
        · have hok : (decide (tpar b.types x.type < 0) || tell (par b.types f i ∈ way b.types f i)) = true := by
            rcases g0 with g0 | g0
            · have h0 : x.type = 0 := Classical.byContradiction fun h' => hA ⟨g0, h'⟩
              rw [hpt, decide_eq_true ((tys_root ht htk).2 (by omega))]; rfl
            · rw [tell_pos g0]; simp
          have hKb := way_bound (List.mem_of_getElem? g2)
          obtain ⟨a, rfl⟩ : ∃ a : Nat, K = (a : Int) := ⟨K.toNat, by omega⟩
          obtain ⟨y, hy⟩ : ∃ y, f[a]? = some y := ⟨_, List.getElem?_eq_getElem (by omega)⟩
          have hya := aItem hy
          have n1 : ¬ (a : Int) < par b.types f i := by omega
          have n2 : ¬ (a : Int) = par b.types f i := by omega
          have hsib : sibOk b.types f i x = ordOk b.types f (a : Int) x := by simp only [sibOk, nOf, g2]
          simp only [ordOk, typ_at hy, dat_at hy, htyo] at hsib
          by_cases o1 : x.type < y.type
          · simp only [hT, n1, n2, ha, hya, o1, rItem, evX, Int.reduceEq, Int.reduceLT, Int.reduceLE, Nat.reduceMul, Nat.reduceMod, evW, fn_eq, evR, Nat.reduceAdd, Nat.reduceLT, Nat.reduceLeDiff, reduceIte, Nat.reduceEqDiff, reduceCtorEq, argEnv, eq_self, if_true, if_false]
            repeat' ((first | rw [guardK_cases] | rw [condK_bool] | rw [guardD_cases]); split <;> simp only [hT, n1, n2, ha, hya, o1, rItem, evX, Int.reduceEq, Int.reduceLT, Int.reduceLE, Nat.reduceMul, Nat.reduceMod, evW, evR, Nat.reduceAdd, Nat.reduceLT, Nat.reduceLeDiff, reduceIte, Nat.reduceEqDiff, reduceCtorEq, argEnv, eq_self, if_true, if_false, *])
            exact Sc.ret (bad_sib (by rw [hsib, decide_eq_false (show ¬ y.type < x.type by omega), decide_eq_false (show ¬ y.type = x.type by omega)]; rfl)) ⟨rfl, rfl⟩
          by_cases o2 : y.type = x.type
          · have hfy := fits_some (hfit a y hy)
            obtain ⟨k', t', q1, _, q2, q3, _⟩ := hfy
            obtain rfl : k' = k := by omega
            rw [htk] at q2; cases q2
            have o0 : ¬ x.type < x.type := by omega
            by_cases o4 : 0 ≤ t.key
            · have h1 := f113 b y k' t (by omega) htk hty q3
              have h2 := f113 b x k' t hk htk hty hmin
              simp only [eBase, rItem, o2] at h1 h2
              have hin : inOrd t y.data x.data = (bLt (keyOf t y.data) (keyOf t x.data) || (decide (keyOf t y.data = keyOf t x.data) && !t.unique)) := by
                rw [inOrd, decide_eq_false (by omega)]; rfl
              rw [hin, decide_eq_false (show ¬ y.type < x.type by omega), decide_eq_true o2] at hsib
              cases o5 : bLt (keyOf t y.data) (keyOf t x.data) with
              | true =>
                have o6 : ¬ keyOf t y.data = keyOf t x.data := fun e => by rw [e, bLt_irrefl] at o5; cases o5
                rw [o5] at hsib
                simp only [hT, hs, n1, n2, ha, hya, hat, o0, o2, o4, o5, o6, h1, h2, hw, rItem, rTy, evX, Int.reduceEq, Int.reduceLT, Int.reduceLE, Nat.reduceMul, Nat.reduceMod, evW, fn_eq, evR, Nat.reduceAdd, Nat.reduceLT, Nat.reduceLeDiff, reduceIte, Nat.reduceEqDiff, reduceCtorEq, argEnv, eq_self, if_true, if_false]
                repeat' ((first | rw [guardK_cases] | rw [condK_bool] | rw [guardD_cases]); split <;> simp only [hT, hs, n1, n2, ha, hya, hat, o0, o2, o4, o5, o6, h1, h2, hw, rItem, rTy, evX, Int.reduceEq, Int.reduceLT, Int.reduceLE, Nat.reduceMul, Nat.reduceMod, evW, evR, Nat.reduceAdd, Nat.reduceLT, Nat.reduceLeDiff, reduceIte, Nat.reduceEqDiff, reduceCtorEq, argEnv, eq_self, if_true, if_false, *])
                exact Sc.next (by rw [okAt, hft, hok, hsib]; rfl) (by rfl)
              | false =>
                by_cases o6 : keyOf t y.data = keyOf t x.data
                · cases o7 : t.unique with
                  | true =>
                    rw [o5, o7] at hsib
                    simp only [hT, hs, n1, n2, ha, hya, hat, o0, o2, o4, o5, o6, o7, bLt_irrefl, h1, h2, rItem, rTy, evX, Int.reduceEq, Int.reduceLT, Int.reduceLE, Nat.reduceMul, Nat.reduceMod, evW, fn_eq, evR, Nat.reduceAdd, Nat.reduceLT, Nat.reduceLeDiff, reduceIte, Nat.reduceEqDiff, reduceCtorEq, argEnv, eq_self, if_true, if_false]
                    repeat' ((first | rw [guardK_cases] | rw [condK_bool] | rw [guardD_cases]); split <;> simp only [hT, hs, n1, n2, ha, hya, hat, o0, o2, o4, o5, o6, o7, bLt_irrefl, h1, h2, rItem, rTy, evX, Int.reduceEq, Int.reduceLT, Int.reduceLE, Nat.reduceMul, Nat.reduceMod, evW, evR, Nat.reduceAdd, Nat.reduceLT, Nat.reduceLeDiff, reduceIte, Nat.reduceEqDiff, reduceCtorEq, argEnv, eq_self, if_true, if_false, *])
                    exact Sc.ret (bad_sib (by rw [hsib]; simp)) ⟨rfl, rfl⟩
                  | false =>
                    rw [o5, o7, decide_eq_true o6] at hsib
                    simp only [hT, hs, n1, n2, ha, hya, hat, o0, o2, o4, o5, o6, o7, bLt_irrefl, h1, h2, hw, rItem, rTy, evX, Int.reduceEq, Int.reduceLT, Int.reduceLE, Nat.reduceMul, Nat.reduceMod, evW, fn_eq, evR, Nat.reduceAdd, Nat.reduceLT, Nat.reduceLeDiff, reduceIte, Nat.reduceEqDiff, reduceCtorEq, argEnv, eq_self, if_true, if_false]
                    repeat' ((first | rw [guardK_cases] | rw [condK_bool] | rw [guardD_cases]); split <;> simp only [hT, hs, n1, n2, ha, hya, hat, o0, o2, o4, o5, o6, o7, bLt_irrefl, h1, h2, hw, rItem, rTy, evX, Int.reduceEq, Int.reduceLT, Int.reduceLE, Nat.reduceMul, Nat.reduceMod, evW, evR, Nat.reduceAdd, Nat.reduceLT, Nat.reduceLeDiff, reduceIte, Nat.reduceEqDiff, reduceCtorEq, argEnv, eq_self, if_true, if_false, *])
                    exact Sc.next (by rw [okAt, hft, hok, hsib]; rfl) (by rfl)
                · rw [o5, decide_eq_false o6] at hsib
                  simp only [hT, hs, n1, n2, ha, hya, hat, o0, o2, o4, o5, o6, h1, h2, rItem, rTy, evX, Int.reduceEq, Int.reduceLT, Int.reduceLE, Nat.reduceMul, Nat.reduceMod, evW, fn_eq, evR, Nat.reduceAdd, Nat.reduceLT, Nat.reduceLeDiff, reduceIte, Nat.reduceEqDiff, reduceCtorEq, argEnv, eq_self, if_true, if_false]
                  repeat' ((first | rw [guardK_cases] | rw [condK_bool] | rw [guardD_cases]); split <;> simp only [hT, hs, n1, n2, ha, hya, hat, o0, o2, o4, o5, o6, h1, h2, rItem, rTy, evX, Int.reduceEq, Int.reduceLT, Int.reduceLE, Nat.reduceMul, Nat.reduceMod, evW, evR, Nat.reduceAdd, Nat.reduceLT, Nat.reduceLeDiff, reduceIte, Nat.reduceEqDiff, reduceCtorEq, argEnv, eq_self, if_true, if_false, *])
                  exact Sc.ret (bad_sib (by rw [hsib]; simp)) ⟨rfl, rfl⟩
            · have hin : inOrd t y.data x.data = true := by rw [inOrd, decide_eq_true (by omega)]; rfl
              rw [hin, decide_eq_true o2] at hsib
              simp only [hT, hs, n1, n2, ha, hya, hat, o0, o2, o4, hw, rItem, rTy, evX, Int.reduceEq, Int.reduceLT, Int.reduceLE, Nat.reduceMul, Nat.reduceMod, evW, fn_eq, evR, Nat.reduceAdd, Nat.reduceLT, Nat.reduceLeDiff, reduceIte, Nat.reduceEqDiff, reduceCtorEq, argEnv, eq_self, if_true, if_false]
              repeat' ((first | rw [guardK_cases] | rw [condK_bool] | rw [guardD_cases]); split <;> simp only [hT, hs, n1, n2, ha, hya, hat, o0, o2, o4, hw, rItem, rTy, evX, Int.reduceEq, Int.reduceLT, Int.reduceLE, Nat.reduceMul, Nat.reduceMod, evW, evR, Nat.reduceAdd, Nat.reduceLT, Nat.reduceLeDiff, reduceIte, Nat.reduceEqDiff, reduceCtorEq, argEnv, eq_self, if_true, if_false, *])
              exact Sc.next (by rw [okAt, hft, hok, hsib]; simp) (by rfl)
          · simp only [hT, hs, n1, n2, ha, hya, o1, o2, hw, rItem, rTy, evX, Int.reduceEq, Int.reduceLT, Int.reduceLE, Nat.reduceMul, Nat.reduceMod, evW, fn_eq, evR, Nat.reduceAdd, Nat.reduceLT, Nat.reduceLeDiff, reduceIte, Nat.reduceEqDiff, reduceCtorEq, argEnv, eq_self, if_true, if_false]
            repeat' ((first | rw [guardK_cases] | rw [condK_bool] | rw [guardD_cases]); split <;> simp only [hT, hs, n1, n2, ha, hya, o1, o2, hw, rItem, rTy, evX, Int.reduceEq, Int.reduceLT, Int.reduceLE, Nat.reduceMul, Nat.reduceMod, evW, evR, Nat.reduceAdd, Nat.reduceLT, Nat.reduceLeDiff, reduceIte, Nat.reduceEqDiff, reduceCtorEq, argEnv, eq_self, if_true, if_false, *])
            exact Sc.next (by rw [okAt, hft, hok, hsib, decide_eq_true (show y.type < x.type by omega)]; rfl) (by rfl)
      · simp only [c92_l2, hE, hi, hs, ha, hlen, h64, c1, hwm, rItem, evX, Int.reduceEq, Int.reduceLT, Int.reduceLE, Nat.reduceMul, Nat.reduceMod, evW, fn_eq, evR, Nat.reduceAdd, Nat.reduceLT, Nat.reduceLeDiff, reduceIte, Nat.reduceEqDiff, reduceCtorEq, argEnv, eq_self, if_true, if_false]
        repeat' ((first | rw [guardK_cases] | rw [condK_bool] | rw [guardD_cases]); split <;> simp only [c92_l2, hE, hi, hs, ha, hlen, h64, c1, hwm, rItem, evX, Int.reduceEq, Int.reduceLT, Int.reduceLE, Nat.reduceMul, Nat.reduceMod, evW, evR, Nat.reduceAdd, Nat.reduceLT, Nat.reduceLeDiff, reduceIte, Nat.reduceEqDiff, reduceCtorEq, argEnv, eq_self, if_true, if_false, *])
        generalize hz : itLim _ _ = z
        obtain ⟨T, K, rfl, hT, k1, k2, hW⟩ := l92 b f hfit hl i hlt H b1 hs1 (par b.types f i) hb.1 _ G (by rfl) (by rfl) z hz
        rcases hW with ⟨g1, g2⟩ | ⟨g0, ⟨rfl, g1⟩ | ⟨g1, g2⟩⟩
        · simp only [hT, g1, evX, Int.reduceEq, Int.reduceLT, Int.reduceLE, Nat.reduceMul, Nat.reduceMod, evW, fn_eq, evR, Nat.reduceAdd, Nat.reduceLT, Nat.reduceLeDiff, reduceIte, Nat.reduceEqDiff, reduceCtorEq, argEnv, eq_self, if_true, if_false]
          repeat' ((first | rw [guardK_cases] | rw [condK_bool] | rw [guardD_cases]); split <;> simp only [hT, g1, evX, Int.reduceEq, Int.reduceLT, Int.reduceLE, Nat.reduceMul, Nat.reduceMod, evW, evR, Nat.reduceAdd, Nat.reduceLT, Nat.reduceLeDiff, reduceIte, Nat.reduceEqDiff, reduceCtorEq, argEnv, eq_self, if_true, if_false, *])
          refine Sc.ret ?_ ⟨rfl, rfl⟩
          have h1 := (par_typ (ts := b.types) (f := f) (i := i) (by omega)).2
          rw [typ_at hx] at h1
          rw [okAt, decide_eq_false (by omega), tell_neg g2]; simp
        · have hok : (decide (tpar b.types x.type < 0) || tell (par b.types f i ∈ way b.types f i)) = true := by
            rcases g0 with g0 | g0
            · have h0 : x.type = 0 := Classical.byContradiction fun h' => hA ⟨g0, h'⟩
              rw [hpt, decide_eq_true ((tys_root ht htk).2 (by omega))]; rfl
            · rw [tell_pos g0]; simp
          have hsib : sibOk b.types f i x = true := by simp only [sibOk, nOf, g1]
          simp only [hT, Int.lt_irrefl, hw, evX, Int.reduceEq, Int.reduceLT, Int.reduceLE, Nat.reduceMul, Nat.reduceMod, evW, fn_eq, evR, Nat.reduceAdd, Nat.reduceLT, Nat.reduceLeDiff, reduceIte, Nat.reduceEqDiff, reduceCtorEq, argEnv, eq_self, if_true, if_false]
          repeat' ((first | rw [guardK_cases] | rw [condK_bool] | rw [guardD_cases]); split <;> simp only [hT, Int.lt_irrefl, hw, evX, Int.reduceEq, Int.reduceLT, Int.reduceLE, Nat.reduceMul, Nat.reduceMod, evW, evR, Nat.reduceAdd, Nat.reduceLT, Nat.reduceLeDiff, reduceIte, Nat.reduceEqDiff, reduceCtorEq, argEnv, eq_self, if_true, if_false, *])
          exact Sc.next (by rw [okAt, hft, hok, hsib]; rfl) (by rfl)
        · have hok : (decide (tpar b.types x.type < 0) || tell (par b.types f i ∈ way b.types f i)) = true := by
            rcases g0 with g0 | g0
            · have h0 : x.type = 0 := Classical.byContradiction fun h' => hA ⟨g0, h'⟩
              rw [hpt, decide_eq_true ((tys_root ht htk).2 (by omega))]; rfl
            · rw [tell_pos g0]; simp
          have hKb := way_bound (List.mem_of_getElem? g2)
          obtain ⟨a, rfl⟩ : ∃ a : Nat, K = (a : Int) := ⟨K.toNat, by omega⟩
          obtain ⟨y, hy⟩ : ∃ y, f[a]? = some y := ⟨_, List.getElem?_eq_getElem (by omega)⟩
          have hya := aItem hy
          have n1 : ¬ (a : Int) < par b.types f i := by omega
          have n2 : ¬ (a : Int) = par b.types f i := by omega
          have hsib : sibOk b.types f i x = ordOk b.types f (a : Int) x := by simp only [sibOk, nOf, g2]
          simp only [ordOk, typ_at hy, dat_at hy, htyo] at hsib
          by_cases o1 : x.type < y.type
          · simp only [hT, n1, n2, ha, hya, o1, rItem, evX, Int.reduceEq, Int.reduceLT, Int.reduceLE, Nat.reduceMul, Nat.reduceMod, evW, fn_eq, evR, Nat.reduceAdd, Nat.reduceLT, Nat.reduceLeDiff, reduceIte, Nat.reduceEqDiff, reduceCtorEq, argEnv, eq_self, if_true, if_false]
            repeat' ((first | rw [guardK_cases] | rw [condK_bool] | rw [guardD_cases]); split <;> simp only [hT, n1, n2, ha, hya, o1, rItem, evX, Int.reduceEq, Int.reduceLT, Int.reduceLE, Nat.reduceMul, Nat.reduceMod, evW, evR, Nat.reduceAdd, Nat.reduceLT, Nat.reduceLeDiff, reduceIte, Nat.reduceEqDiff, reduceCtorEq, argEnv, eq_self, if_true, if_false, *])
            exact Sc.ret (bad_sib (by rw [hsib, decide_eq_false (show ¬ y.type < x.type by omega), decide_eq_false (show ¬ y.type = x.type by omega)]; rfl)) ⟨rfl, rfl⟩
          by_cases o2 : y.type = x.type
          · have hfy := fits_some (hfit a y hy)
            obtain ⟨k', t', q1, _, q2, q3, _⟩ := hfy
            obtain rfl : k' = k := by omega
            rw [htk] at q2; cases q2
            have o0 : ¬ x.type < x.type := by omega
            by_cases o4 : 0 ≤ t.key
            · have h1 := f113 b y k' t (by omega) htk hty q3
              have h2 := f113 b x k' t hk htk hty hmin
              simp only [eBase, rItem, o2] at h1 h2
              have hin : inOrd t y.data x.data = (bLt (keyOf t y.data) (keyOf t x.data) || (decide (keyOf t y.data = keyOf t x.data) && !t.unique)) := by
                rw [inOrd, decide_eq_false (by omega)]; rfl
              rw [hin, decide_eq_false (show ¬ y.type < x.type by omega), decide_eq_true o2] at hsib
              cases o5 : bLt (keyOf t y.data) (keyOf t x.data) with
              | true =>
                have o6 : ¬ keyOf t y.data = keyOf t x.data := fun e => by rw [e, bLt_irrefl] at o5; cases o5
                rw [o5] at hsib
                simp only [hT, hs, n1, n2, ha, hya, hat, o0, o2, o4, o5, o6, h1, h2, hw, rItem, rTy, evX, Int.reduceEq, Int.reduceLT, Int.reduceLE, Nat.reduceMul, Nat.reduceMod, evW, fn_eq, evR, Nat.reduceAdd, Nat.reduceLT, Nat.reduceLeDiff, reduceIte, Nat.reduceEqDiff, reduceCtorEq, argEnv, eq_self, if_true, if_false]
                repeat' ((first | rw [guardK_cases] | rw [condK_bool] | rw [guardD_cases]); split <;> simp only [hT, hs, n1, n2, ha, hya, hat, o0, o2, o4, o5, o6, h1, h2, hw, rItem, rTy, evX, Int.reduceEq, Int.reduceLT, Int.reduceLE, Nat.reduceMul, Nat.reduceMod, evW, evR, Nat.reduceAdd, Nat.reduceLT, Nat.reduceLeDiff, reduceIte, Nat.reduceEqDiff, reduceCtorEq, argEnv, eq_self, if_true, if_false, *])
                exact Sc.next (by rw [okAt, hft, hok, hsib]; rfl) (by rfl)
              | false =>
                by_cases o6 : keyOf t y.data = keyOf t x.data
                · cases o7 : t.unique with
                  | true =>
                    rw [o5, o7] at hsib
                    simp only [hT, hs, n1, n2, ha, hya, hat, o0, o2, o4, o5, o6, o7, bLt_irrefl, h1, h2, rItem, rTy, evX, Int.reduceEq, Int.reduceLT, Int.reduceLE, Nat.reduceMul, Nat.reduceMod, evW, fn_eq, evR, Nat.reduceAdd, Nat.reduceLT, Nat.reduceLeDiff, reduceIte, Nat.reduceEqDiff, reduceCtorEq, argEnv, eq_self, if_true, if_false]
                    repeat' ((first | rw [guardK_cases] | rw [condK_bool] | rw [guardD_cases]); split <;> simp only [hT, hs, n1, n2, ha, hya, hat, o0, o2, o4, o5, o6, o7, bLt_irrefl, h1, h2, rItem, rTy, evX, Int.reduceEq, Int.reduceLT, Int.reduceLE, Nat.reduceMul, Nat.reduceMod, evW, evR, Nat.reduceAdd, Nat.reduceLT, Nat.reduceLeDiff, reduceIte, Nat.reduceEqDiff, reduceCtorEq, argEnv, eq_self, if_true, if_false, *])
                    exact Sc.ret (bad_sib (by rw [hsib]; simp)) ⟨rfl, rfl⟩
                  | false =>
                    rw [o5, o7, decide_eq_true o6] at hsib
                    simp only [hT, hs, n1, n2, ha, hya, hat, o0, o2, o4, o5, o6, o7, bLt_irrefl, h1, h2, hw, rItem, rTy, evX, Int.reduceEq, Int.reduceLT, Int.reduceLE, Nat.reduceMul, Nat.reduceMod, evW, fn_eq, evR, Nat.reduceAdd, Nat.reduceLT, Nat.reduceLeDiff, reduceIte, Nat.reduceEqDiff, reduceCtorEq, argEnv, eq_self, if_true, if_false]
                    repeat' ((first | rw [guardK_cases] | rw [condK_bool] | rw [guardD_cases]); split <;> simp only [hT, hs, n1, n2, ha, hya, hat, o0, o2, o4, o5, o6, o7, bLt_irrefl, h1, h2, hw, rItem, rTy, evX, Int.reduceEq, Int.reduceLT, Int.reduceLE, Nat.reduceMul, Nat.reduceMod, evW, evR, Nat.reduceAdd, Nat.reduceLT, Nat.reduceLeDiff, reduceIte, Nat.reduceEqDiff, reduceCtorEq, argEnv, eq_self, if_true, if_false, *])
                    exact Sc.next (by rw [okAt, hft, hok, hsib]; rfl) (by rfl)
                · rw [o5, decide_eq_false o6] at hsib
                  simp only [hT, hs, n1, n2, ha, hya, hat, o0, o2, o4, o5, o6, h1, h2, rItem, rTy, evX, Int.reduceEq, Int.reduceLT, Int.reduceLE, Nat.reduceMul, Nat.reduceMod, evW, fn_eq, evR, Nat.reduceAdd, Nat.reduceLT, Nat.reduceLeDiff, reduceIte, Nat.reduceEqDiff, reduceCtorEq, argEnv, eq_self, if_true, if_false]
                  repeat' ((first | rw [guardK_cases] | rw [condK_bool] | rw [guardD_cases]); split <;> simp only [hT, hs, n1, n2, ha, hya, hat, o0, o2, o4, o5, o6, h1, h2, rItem, rTy, evX, Int.reduceEq, Int.reduceLT, Int.reduceLE, Nat.reduceMul, Nat.reduceMod, evW, evR, Nat.reduceAdd, Nat.reduceLT, Nat.reduceLeDiff, reduceIte, Nat.reduceEqDiff, reduceCtorEq, argEnv, eq_self, if_true, if_false, *])
                  exact Sc.ret (bad_sib (by rw [hsib]; simp)) ⟨rfl, rfl⟩
            · have hin : inOrd t y.data x.data = true := by rw [inOrd, decide_eq_true (by omega)]; rfl
              rw [hin, decide_eq_true o2] at hsib
              simp only [hT, hs, n1, n2, ha, hya, hat, o0, o2, o4, hw, rItem, rTy, evX, Int.reduceEq, Int.reduceLT, Int.reduceLE, Nat.reduceMul, Nat.reduceMod, evW, fn_eq, evR, Nat.reduceAdd, Nat.reduceLT, Nat.reduceLeDiff, reduceIte, Nat.reduceEqDiff, reduceCtorEq, argEnv, eq_self, if_true, if_false]
              repeat' ((first | rw [guardK_cases] | rw [condK_bool] | rw [guardD_cases]); split <;> simp only [hT, hs, n1, n2, ha, hya, hat, o0, o2, o4, hw, rItem, rTy, evX, Int.reduceEq, Int.reduceLT, Int.reduceLE, Nat.reduceMul, Nat.reduceMod, evW, evR, Nat.reduceAdd, Nat.reduceLT, Nat.reduceLeDiff, reduceIte, Nat.reduceEqDiff, reduceCtorEq, argEnv, eq_self, if_true, if_false, *])
              exact Sc.next (by rw [okAt, hft, hok, hsib]; simp) (by rfl)
          · simp only [hT, hs, n1, n2, ha, hya, o1, o2, hw, rItem, rTy, evX, Int.reduceEq, Int.reduceLT, Int.reduceLE, Nat.reduceMul, Nat.reduceMod, evW, fn_eq, evR, Nat.reduceAdd, Nat.reduceLT, Nat.reduceLeDiff, reduceIte, Nat.reduceEqDiff, reduceCtorEq, argEnv, eq_self, if_true, if_false]
            repeat' ((first | rw [guardK_cases] | rw [condK_bool] | rw [guardD_cases]); split <;> simp only [hT, hs, n1, n2, ha, hya, o1, o2, hw, rItem, rTy, evX, Int.reduceEq, Int.reduceLT, Int.reduceLE, Nat.reduceMul, Nat.reduceMod, evW, evR, Nat.reduceAdd, Nat.reduceLT, Nat.reduceLeDiff, reduceIte, Nat.reduceEqDiff, reduceCtorEq, argEnv, eq_self, if_true, if_false, *])
            exact Sc.next (by rw [okAt, hft, hok, hsib, decide_eq_true (show y.type < x.type by omega)]; rfl) (by rfl))
    (fun _ E G hE => by
      simp only [c92_l2, hE, hlen, Int.lt_irrefl, evX, Int.reduceEq, Int.reduceLT, Int.reduceLE, Nat.reduceMul, Nat.reduceMod, evW, fn_eq, evR, Nat.reduceAdd, Nat.reduceLT, Nat.reduceLeDiff, reduceIte, Nat.reduceEqDiff, reduceCtorEq, argEnv, eq_self, if_true, if_false]
      repeat' ((first | rw [guardK_cases] | rw [condK_bool] | rw [guardD_cases]); split <;> simp only [c92_l2, hE, hlen, Int.lt_irrefl, evX, Int.reduceEq, Int.reduceLT, Int.reduceLE, Nat.reduceMul, Nat.reduceMod, evW, evR, Nat.reduceAdd, Nat.reduceLT, Nat.reduceLeDiff, reduceIte, Nat.reduceEqDiff, reduceCtorEq, argEnv, eq_self, if_true, if_false, *])
      exact .exit (K := []) rfl) st G hE hH z hz
  rcases L with ⟨h, L⟩ | ⟨i, y, hx, h, _, L⟩
  · exact .inl ⟨tell_pos h, L⟩
  · exact .inr ⟨forest_bad hx h, L⟩
theorem f92 (b : Base) (ht : tysOk b.types = true) (f : List Item) (H : Heap) : cal (evC cprog) false 92 [eBase b, eItems f] H = some (.bool (forestOk b.types f), H) := by
  rw [cal_of at92]
  have hlen := (sItems [] f).len
  simp only [List.length_map] at hlen
  by_cases h : (200 : Int) < (f.length : Int)
  · have hv : forestOk b.types f = false := by unfold forestOk; rw [decide_eq_false (by omega)]; rfl
    rw [hv]
    simp only [c92, eBase, hlen, h, evX, Int.reduceEq, Int.reduceLT, Int.reduceLE, Nat.reduceMul, Nat.reduceMod, evW, fn_eq, evR, Nat.reduceAdd, Nat.reduceLT, Nat.reduceLeDiff, reduceIte, Nat.reduceEqDiff, reduceCtorEq, argEnv, eq_self, if_true, if_false]
    repeat' ((first | rw [guardK_cases] | rw [condK_bool] | rw [guardD_cases]); split <;> simp only [c92, eBase, hlen, h, evX, Int.reduceEq, Int.reduceLT, Int.reduceLE, Nat.reduceMul, Nat.reduceMod, evW, evR, Nat.reduceAdd, Nat.reduceLT, Nat.reduceLeDiff, reduceIte, Nat.reduceEqDiff, reduceCtorEq, argEnv, eq_self, if_true, if_false, *])
  · have hv : forestOk b.types f = tell (∀ (i : Nat) (x : Item), f[i]? = some x → okAt b.types f i x = true) := by unfold forestOk; rw [decide_eq_true (by omega)]; rfl
    rw [hv]
    simp only [c92, eBase, hlen, h, evX, Int.reduceEq, Int.reduceLT, Int.reduceLE, Nat.reduceMul, Nat.reduceMod, evW, fn_eq, evR, Nat.reduceAdd, Nat.reduceLT, Nat.reduceLeDiff, reduceIte, Nat.reduceEqDiff, reduceCtorEq, argEnv, eq_self, if_true, if_false]
    repeat' ((first | rw [guardK_cases] | rw [condK_bool] | rw [guardD_cases]); split <;> simp only [c92, eBase, hlen, h, evX, Int.reduceEq, Int.reduceLT, Int.reduceLE, Nat.reduceMul, Nat.reduceMod, evW, evR, Nat.reduceAdd, Nat.reduceLT, Nat.reduceLeDiff, reduceIte, Nat.reduceEqDiff, reduceCtorEq, argEnv, eq_self, if_true, if_false, *])
    generalize hz : itLim _ _ = z
    rcases k92 b f (by omega) (H ++ [bBase b]) H.length (.mk (by simp)) _ [] (by rfl) (by simp [bBase]) z hz with ⟨g, c, T, G', rfl, _, rfl, hT⟩ | ⟨g, c, T, G', rfl, _, rfl, hT⟩
    · have hfit : AllFit b.types f := fun i x hx => List.all_eq_true.1 g x (List.mem_of_getElem? hx)
      simp only [hT, evX, Int.reduceEq, Int.reduceLT, Int.reduceLE, Nat.reduceMul, Nat.reduceMod, evW, fn_eq, evR, Nat.reduceAdd, Nat.reduceLT, Nat.reduceLeDiff, reduceIte, Nat.reduceEqDiff, reduceCtorEq, argEnv, eq_self, if_true, if_false]
      repeat' ((first | rw [guardK_cases] | rw [condK_bool] | rw [guardD_cases]); split <;> simp only [hT, evX, Int.reduceEq, Int.reduceLT, Int.reduceLE, Nat.reduceMul, Nat.reduceMod, evW, evR, Nat.reduceAdd, Nat.reduceLT, Nat.reduceLeDiff, reduceIte, Nat.reduceEqDiff, reduceCtorEq, argEnv, eq_self, if_true, if_false, *])
      generalize hz : itLim _ _ = z
      rcases m92 b ht f hfit (by omega) (H ++ [bBase b]) H.length (.mk (by simp)) _ G' (by rfl) (by simp) z hz with ⟨g2, c, T, G', rfl, _, rfl⟩ | ⟨g2, c, T, G', rfl, _, rfl, hT⟩
      · rw [g2]
        simp only [evX, Int.reduceEq, Int.reduceLT, Int.reduceLE, Nat.reduceMul, Nat.reduceMod, evW, fn_eq, evR, Nat.reduceAdd, Nat.reduceLT, Nat.reduceLeDiff, reduceIte, Nat.reduceEqDiff, reduceCtorEq, argEnv, eq_self, if_true, if_false]
        repeat' ((first | rw [guardK_cases] | rw [condK_bool] | rw [guardD_cases]); split <;> simp only [evX, Int.reduceEq, Int.reduceLT, Int.reduceLE, Nat.reduceMul, Nat.reduceMod, evW, evR, Nat.reduceAdd, Nat.reduceLT, Nat.reduceLeDiff, reduceIte, Nat.reduceEqDiff, reduceCtorEq, argEnv, eq_self, if_true, if_false, *])
      · rw [g2]
        simp only [hT, evX, Int.reduceEq, Int.reduceLT, Int.reduceLE, Nat.reduceMul, Nat.reduceMod, evW, fn_eq, evR, Nat.reduceAdd, Nat.reduceLT, Nat.reduceLeDiff, reduceIte, Nat.reduceEqDiff, reduceCtorEq, argEnv, eq_self, if_true, if_false]
        repeat' ((first | rw [guardK_cases] | rw [condK_bool] | rw [guardD_cases]); split <;> simp only [hT, evX, Int.reduceEq, Int.reduceLT, Int.reduceLE, Nat.reduceMul, Nat.reduceMod, evW, evR, Nat.reduceAdd, Nat.reduceLT, Nat.reduceLeDiff, reduceIte, Nat.reduceEqDiff, reduceCtorEq, argEnv, eq_self, if_true, if_false, *])
    · have : tell (∀ (i : Nat) (x : Item), f[i]? = some x → okAt b.types f i x = true) = false := by
        obtain ⟨x, hx, h⟩ := List.all_eq_false.1 g
        obtain ⟨i, hi⟩ := List.getElem?_of_mem hx
        exact forest_bad hi (by simp [okAt, h])
      rw [this]
      simp only [hT, evX, Int.reduceEq, Int.reduceLT, Int.reduceLE, Nat.reduceMul, Nat.reduceMod, evW, fn_eq, evR, Nat.reduceAdd, Nat.reduceLT, Nat.reduceLeDiff, reduceIte, Nat.reduceEqDiff, reduceCtorEq, argEnv, eq_self, if_true, if_false]
      repeat' ((first | rw [guardK_cases] | rw [condK_bool] | rw [guardD_cases]); split <;> simp only [hT, evX, Int.reduceEq, Int.reduceLT, Int.reduceLE, Nat.reduceMul, Nat.reduceMod, evW, evR, Nat.reduceAdd, Nat.reduceLT, Nat.reduceLeDiff, reduceIte, Nat.reduceEqDiff, reduceCtorEq, argEnv, eq_self, if_true, if_false, *])
end Go.Proofs.Ytbchmbddcdionaa.Code

/- plain: the same lists; Small. -/
set_option linter.unusedSimpArgs false
set_option linter.unusedVariables false
namespace Go.Proofs.Ytbchmbddcdionaa.Code
open Go.Proofs.Ytbchmbddcdionaa.Ev

def sameI (x y : Item) : Bool := decide (x.type = y.type) && decide (x.data = y.data)
theorem sameI_eq {x y : Item} : sameI x y = true ↔ x = y := by
  cases x; cases y; simp [sameI]
theorem eqsItem (n : Bool) (x y : Item) : eqsK n [0, 2] (some (.agg [.int .i64 x.type, .str x.data])) (some (.agg [.int .i64 y.type, .str y.data])) = some (.bool (if n = true then !(sameI x y) else sameI x y)) := by
  simp only [eqsK, cellsEq, cellEq, str_beq, if_true, sameI, Bool.and_true, Option.map_some]
noncomputable def same (f g : List Item) : Bool := tell (f = g)
theorem same_no {f g : List Item} {i : Nat} {x y : Item} (hx : f[i]? = some x) (hy : g[i]? = some y) (h : sameI x y = false) : same f g = false := tell_neg fun e => by
  subst e; rw [hx] at hy; cases hy
  rw [sameI_eq.2 rfl] at h; cases h
theorem same_yes {f g : List Item} (hl : f.length = g.length) (h : ∀ (i : Nat) (x : Item), f[i]? = some x → (match g[i]? with | some y => sameI x y | none => false) = true) : same f g = true := tell_pos <| by
  apply List.ext_getElem? 
  intro i
  cases hx : f[i]? with
  | none =>
    have := List.getElem?_eq_none_iff.1 hx
    rw [List.getElem?_eq_none (by omega)]
  | some x =>
    have h1 := h i x hx
    cases hy : g[i]? with
    | none => simp [hy] at h1
    | some y =>
      simp only [hy] at h1
      rw [sameI_eq.1 h1]
theorem same_len {f g : List Item} (hl : f.length ≠ g.length) : same f g = false := tell_neg fun e => hl (by rw [e])
def okS (g : List Item) (i : Nat) (x : Item) : Bool := match g[i]? with
  | some y => sameI x y
  | none => false
theorem f13 (f g : List Item) (hf : f.length < 9223372036854775807) (H : Heap) : cal (evC cprog) false 13 [eItems f, eItems g] H = some (.bool (same f g), H) := by
  rw [cal_of at13]
  have h1 := (sItems [] f).len
  have h2 := (sItems [] g).len
  simp only [List.length_map] at h1 h2
  by_cases hl : f.length = g.length
  · have hl' : ((f.length : Int) = (g.length : Int)) := by omega
    simp only [c13, h1, h2, hl', evX, Int.reduceEq, Int.reduceLT, Int.reduceLE, Nat.reduceMul, Nat.reduceMod, evW, fn_eq, evR, Nat.reduceAdd, Nat.reduceLT, Nat.reduceLeDiff, reduceIte, Nat.reduceEqDiff, reduceCtorEq, argEnv, eq_self, if_true, if_false]
    repeat' ((first | rw [guardK_cases] | rw [condK_bool] | rw [guardD_cases]); split <;> simp only [c13, h1, h2, hl', evX, Int.reduceEq, Int.reduceLT, Int.reduceLE, Nat.reduceMul, Nat.reduceMod, evW, evR, Nat.reduceAdd, Nat.reduceLT, Nat.reduceLeDiff, reduceIte, Nat.reduceEqDiff, reduceCtorEq, argEnv, eq_self, if_true, if_false, *])
    generalize hz : itLim _ _ = z
    have L := scan_rule f (okS g) [0, 1, 5] (fun i => [(0, eItems f), (1, eItems g), (5, .int .i64 (i : Int))]) H [] (evCode (evC cprog) itLim c13_l0) (fun c T => c = .exit 0) (fun _ _ c T => c = .ret ∧ get T 4 = some (.bool false))
      (fun i x hx E G hE => by
        have hlt : i < f.length := (List.getElem?_eq_some_iff.1 hx).1
        have hi : (i : Int) < (f.length : Int) := by omega
        obtain ⟨y, hy⟩ : ∃ y, g[i]? = some y := ⟨_, List.getElem?_eq_getElem (by omega)⟩
        have ha := aItem hx
        have ha' := aItem hy
        have hok : okS g i x = sameI x y := by simp only [okS, hy]
        rw [hok]
        cases hs : sameI x y with
        | true =>
          simp only [c13_l0, hE, hi, h1, ha, ha', eqsItem, hs, rItem, wrapS hlt hf, evX, Int.reduceEq, Int.reduceLT, Int.reduceLE, Nat.reduceMul, Nat.reduceMod, evW, fn_eq, evR, Nat.reduceAdd, Nat.reduceLT, Nat.reduceLeDiff, reduceIte, Nat.reduceEqDiff, reduceCtorEq, argEnv, eq_self, if_true, if_false]
          repeat' ((first | rw [guardK_cases] | rw [condK_bool] | rw [guardD_cases]); split <;> simp only [c13_l0, hE, hi, h1, ha, ha', eqsItem, hs, rItem, wrapS hlt hf, evX, Int.reduceEq, Int.reduceLT, Int.reduceLE, Nat.reduceMul, Nat.reduceMod, evW, evR, Nat.reduceAdd, Nat.reduceLT, Nat.reduceLeDiff, reduceIte, Nat.reduceEqDiff, reduceCtorEq, argEnv, eq_self, if_true, if_false, *])
          exact Sc.next rfl (by rfl)
        | false =>
          simp only [c13_l0, hE, hi, h1, ha, ha', eqsItem, hs, rItem, evX, Int.reduceEq, Int.reduceLT, Int.reduceLE, Nat.reduceMul, Nat.reduceMod, evW, fn_eq, evR, Nat.reduceAdd, Nat.reduceLT, Nat.reduceLeDiff, reduceIte, Nat.reduceEqDiff, reduceCtorEq, argEnv, eq_self, if_true, if_false]
          repeat' ((first | rw [guardK_cases] | rw [condK_bool] | rw [guardD_cases]); split <;> simp only [c13_l0, hE, hi, h1, ha, ha', eqsItem, hs, rItem, evX, Int.reduceEq, Int.reduceLT, Int.reduceLE, Nat.reduceMul, Nat.reduceMod, evW, evR, Nat.reduceAdd, Nat.reduceLT, Nat.reduceLeDiff, reduceIte, Nat.reduceEqDiff, reduceCtorEq, argEnv, eq_self, if_true, if_false, *])
          exact Sc.ret rfl ⟨rfl, rfl⟩)
      (fun E G hE => by
        simp only [c13_l0, hE, h1, Int.lt_irrefl, evX, Int.reduceEq, Int.reduceLT, Int.reduceLE, Nat.reduceMul, Nat.reduceMod, evW, fn_eq, evR, Nat.reduceAdd, Nat.reduceLT, Nat.reduceLeDiff, reduceIte, Nat.reduceEqDiff, reduceCtorEq, argEnv, eq_self, if_true, if_false]
        repeat' ((first | rw [guardK_cases] | rw [condK_bool] | rw [guardD_cases]); split <;> simp only [c13_l0, hE, h1, Int.lt_irrefl, evX, Int.reduceEq, Int.reduceLT, Int.reduceLE, Nat.reduceMul, Nat.reduceMod, evW, evR, Nat.reduceAdd, Nat.reduceLT, Nat.reduceLeDiff, reduceIte, Nat.reduceEqDiff, reduceCtorEq, argEnv, eq_self, if_true, if_false, *])
        exact .exit (K := []) rfl) _ [] (by rfl) (by simp) z hz
    rcases L with ⟨ha, c, T, G, rfl, _, rfl⟩ | ⟨i, r, hx, ha, _, c, T, G, rfl, _, rfl, hT⟩
    · rw [same_yes hl ha]
      simp only [evX, Int.reduceEq, Int.reduceLT, Int.reduceLE, Nat.reduceMul, Nat.reduceMod, evW, fn_eq, evR, Nat.reduceAdd, Nat.reduceLT, Nat.reduceLeDiff, reduceIte, Nat.reduceEqDiff, reduceCtorEq, argEnv, eq_self, if_true, if_false]
      repeat' ((first | rw [guardK_cases] | rw [condK_bool] | rw [guardD_cases]); split <;> simp only [evX, Int.reduceEq, Int.reduceLT, Int.reduceLE, Nat.reduceMul, Nat.reduceMod, evW, evR, Nat.reduceAdd, Nat.reduceLT, Nat.reduceLeDiff, reduceIte, Nat.reduceEqDiff, reduceCtorEq, argEnv, eq_self, if_true, if_false, *])
    · have hlt : i < f.length := (List.getElem?_eq_some_iff.1 hx).1
      obtain ⟨y, hy⟩ : ∃ y, g[i]? = some y := ⟨_, List.getElem?_eq_getElem (by omega)⟩
      rw [same_no hx hy (by simpa only [okS, hy] using ha)]
      simp only [hT, evX, Int.reduceEq, Int.reduceLT, Int.reduceLE, Nat.reduceMul, Nat.reduceMod, evW, fn_eq, evR, Nat.reduceAdd, Nat.reduceLT, Nat.reduceLeDiff, reduceIte, Nat.reduceEqDiff, reduceCtorEq, argEnv, eq_self, if_true, if_false]
      repeat' ((first | rw [guardK_cases] | rw [condK_bool] | rw [guardD_cases]); split <;> simp only [hT, evX, Int.reduceEq, Int.reduceLT, Int.reduceLE, Nat.reduceMul, Nat.reduceMod, evW, evR, Nat.reduceAdd, Nat.reduceLT, Nat.reduceLeDiff, reduceIte, Nat.reduceEqDiff, reduceCtorEq, argEnv, eq_self, if_true, if_false, *])
  · have hl' : ¬ ((f.length : Int) = (g.length : Int)) := by omega
    rw [same_len hl]
    simp only [c13, h1, h2, hl', evX, Int.reduceEq, Int.reduceLT, Int.reduceLE, Nat.reduceMul, Nat.reduceMod, evW, fn_eq, evR, Nat.reduceAdd, Nat.reduceLT, Nat.reduceLeDiff, reduceIte, Nat.reduceEqDiff, reduceCtorEq, argEnv, eq_self, if_true, if_false]
    repeat' ((first | rw [guardK_cases] | rw [condK_bool] | rw [guardD_cases]); split <;> simp only [c13, h1, h2, hl', evX, Int.reduceEq, Int.reduceLT, Int.reduceLE, Nat.reduceMul, Nat.reduceMod, evW, evR, Nat.reduceAdd, Nat.reduceLT, Nat.reduceLeDiff, reduceIte, Nat.reduceEqDiff, reduceCtorEq, argEnv, eq_self, if_true, if_false, *])
def small (b : Base) (f : List Item) : Bool :=
  b.types.all (fun t => decide ((t.fields.length : Int) ≤ 10)) && f.all (fun x => decide ((x.data.size : Int) ≤ 100)) && decide ((b.types.length : Int) ≤ 12) && decide ((b.indexes.length : Int) ≤ 6) && decide ((f.length : Int) ≤ 60)
theorem f33 (b : Base) (hb : b.Ok) (f : List Item) (hf : f.length < 9223372036854775807) (H : Heap) : cal (evC cprog) false 33 [eBase b, eItems f] H = some (.bool (small b f), H) := by
  rw [cal_of at33]
  have h1 := (sTys [] b.types).len
  have h2 := (sItems [] f).len
  have h3 := (sSes [] b.indexes).len
  simp only [List.length_map] at h1 h2 h3
  simp only [c33, eBase, evX, Int.reduceEq, Int.reduceLT, Int.reduceLE, Nat.reduceMul, Nat.reduceMod, evW, fn_eq, evR, Nat.reduceAdd, Nat.reduceLT, Nat.reduceLeDiff, reduceIte, Nat.reduceEqDiff, reduceCtorEq, argEnv, eq_self, if_true, if_false]
  repeat' ((first | rw [guardK_cases] | rw [condK_bool] | rw [guardD_cases]); split <;> simp only [c33, eBase, evX, Int.reduceEq, Int.reduceLT, Int.reduceLE, Nat.reduceMul, Nat.reduceMod, evW, evR, Nat.reduceAdd, Nat.reduceLT, Nat.reduceLeDiff, reduceIte, Nat.reduceEqDiff, reduceCtorEq, argEnv, eq_self, if_true, if_false, *])
  generalize hz : itLim _ _ = z
  have key : ∀ (H : Heap) (b1 : Nat), Sits H b1 (bBase b) → ∀ (st : St) (G : Heap), keepEnv st.1 [1, 2, 5] = [(1, eItems f), (2, .ptr b1 0 4 0 0), (5, .int .i64 0)] → st.2 = H ++ ([] ++ G) → ∀ z, itLim (evCode (evC cprog) itLim c33_l0) st = z →
      (b.types.all (fun t => decide ((t.fields.length : Int) ≤ 10)) = true ∧ Lv H [] (fun c T => c = .exit 0 ∧ keepEnv T [1, 2] = [(1, eItems f), (2, .ptr b1 0 4 0 0)]) z) ∨ (b.types.all (fun t => decide ((t.fields.length : Int) ≤ 10)) = false ∧ Lv H [] (fun c T => c = .ret ∧ get T 4 = some (.bool false)) z) := by
    intro H b1 hs st G hE hH z hz
    simp only [bBase, Sits] at hs
    exact all_rule b.types _ [1, 2, 5] (fun i => [(1, eItems f), (2, .ptr b1 0 4 0 0), (5, .int .i64 (i : Int))]) H [] (evCode (evC cprog) itLim c33_l0) _ _
      (fun i t hx E G hE => by
        have hlt : i < b.types.length := (List.getElem?_eq_some_iff.1 hx).1
        have hi : (i : Int) < (b.types.length : Int) := by omega
        have ha := aTy hx
        have h4 := (sFds [] t.fields).len
        simp only [List.length_map] at h4
        simp only [c33_l0, hE, hs, hi, h1, ha, h4, rTy, wrapS hlt hb.types, evX, Int.reduceEq, Int.reduceLT, Int.reduceLE, Nat.reduceMul, Nat.reduceMod, evW, fn_eq, evR, Nat.reduceAdd, Nat.reduceLT, Nat.reduceLeDiff, reduceIte, Nat.reduceEqDiff, reduceCtorEq, argEnv, eq_self, if_true, if_false]
        repeat' ((first | rw [guardK_cases] | rw [condK_bool] | rw [guardD_cases]); split <;> simp only [c33_l0, hE, hs, hi, h1, ha, h4, rTy, wrapS hlt hb.types, evX, Int.reduceEq, Int.reduceLT, Int.reduceLE, Nat.reduceMul, Nat.reduceMod, evW, evR, Nat.reduceAdd, Nat.reduceLT, Nat.reduceLeDiff, reduceIte, Nat.reduceEqDiff, reduceCtorEq, argEnv, eq_self, if_true, if_false, *])
        all_goals first | exact Sc.next (by first | (simp_all [Int.not_le]; done) | (simp_all [Int.not_le]; intros; omega)) (by rfl) | exact Sc.ret (by first | (simp_all [Int.not_le]; done) | (simp_all [Int.not_le]; intros; omega)) ⟨rfl, by first | rfl | exact ⟨rfl, rfl, rfl⟩⟩ | exact Sc.exit (by first | (simp_all [Int.not_le]; done) | (simp_all [Int.not_le]; intros; omega)) ⟨rfl, rfl⟩)
      (fun E G hE => by
        simp only [c33_l0, hE, hs, h1, Int.lt_irrefl, evX, Int.reduceEq, Int.reduceLT, Int.reduceLE, Nat.reduceMul, Nat.reduceMod, evW, fn_eq, evR, Nat.reduceAdd, Nat.reduceLT, Nat.reduceLeDiff, reduceIte, Nat.reduceEqDiff, reduceCtorEq, argEnv, eq_self, if_true, if_false]
        repeat' ((first | rw [guardK_cases] | rw [condK_bool] | rw [guardD_cases]); split <;> simp only [c33_l0, hE, hs, h1, Int.lt_irrefl, evX, Int.reduceEq, Int.reduceLT, Int.reduceLE, Nat.reduceMul, Nat.reduceMod, evW, evR, Nat.reduceAdd, Nat.reduceLT, Nat.reduceLeDiff, reduceIte, Nat.reduceEqDiff, reduceCtorEq, argEnv, eq_self, if_true, if_false, *])
        exact .exit (K := []) ⟨rfl, by rfl⟩) st G hE hH z hz
  have key2 : ∀ (H : Heap) (b1 : Nat), Sits H b1 (bBase b) → ∀ (st : St) (G : Heap), keepEnv st.1 [1, 2, 6] = [(1, eItems f), (2, .ptr b1 0 4 0 0), (6, .int .i64 0)] → st.2 = H ++ ([] ++ G) → ∀ z, itLim (evCode (evC cprog) itLim c33_l1) st = z →
      (f.all (fun x => decide ((x.data.size : Int) ≤ 100)) = true ∧ Lv H [] (fun c T => c = .exit 2 ∧ keepEnv T [1, 2] = [(1, eItems f), (2, .ptr b1 0 4 0 0)]) z) ∨ (f.all (fun x => decide ((x.data.size : Int) ≤ 100)) = false ∧ Lv H [] (fun c T => c = .ret ∧ get T 4 = some (.bool false)) z) := by
    intro H b1 hs st G hE hH z hz
    exact all_rule f _ [1, 2, 6] (fun i => [(1, eItems f), (2, .ptr b1 0 4 0 0), (6, .int .i64 (i : Int))]) H [] (evCode (evC cprog) itLim c33_l1) _ _
      (fun i t hx E G hE => by
        have hlt : i < f.length := (List.getElem?_eq_some_iff.1 hx).1
        have hi : (i : Int) < (f.length : Int) := by omega
        have ha := aItem hx
        simp only [c33_l1, hE, hi, h2, ha, rItem, wrapS hlt hf, evX, Int.reduceEq, Int.reduceLT, Int.reduceLE, Nat.reduceMul, Nat.reduceMod, evW, fn_eq, evR, Nat.reduceAdd, Nat.reduceLT, Nat.reduceLeDiff, reduceIte, Nat.reduceEqDiff, reduceCtorEq, argEnv, eq_self, if_true, if_false]
        repeat' ((first | rw [guardK_cases] | rw [condK_bool] | rw [guardD_cases]); split <;> simp only [c33_l1, hE, hi, h2, ha, rItem, wrapS hlt hf, evX, Int.reduceEq, Int.reduceLT, Int.reduceLE, Nat.reduceMul, Nat.reduceMod, evW, evR, Nat.reduceAdd, Nat.reduceLT, Nat.reduceLeDiff, reduceIte, Nat.reduceEqDiff, reduceCtorEq, argEnv, eq_self, if_true, if_false, *])
        all_goals first | exact Sc.next (by first | (simp_all [Int.not_le]; done) | (simp_all [Int.not_le]; intros; omega)) (by rfl) | exact Sc.ret (by first | (simp_all [Int.not_le]; done) | (simp_all [Int.not_le]; intros; omega)) ⟨rfl, by first | rfl | exact ⟨rfl, rfl, rfl⟩⟩ | exact Sc.exit (by first | (simp_all [Int.not_le]; done) | (simp_all [Int.not_le]; intros; omega)) ⟨rfl, rfl⟩)
      (fun E G hE => by
        simp only [c33_l1, hE, h2, Int.lt_irrefl, evX, Int.reduceEq, Int.reduceLT, Int.reduceLE, Nat.reduceMul, Nat.reduceMod, evW, fn_eq, evR, Nat.reduceAdd, Nat.reduceLT, Nat.reduceLeDiff, reduceIte, Nat.reduceEqDiff, reduceCtorEq, argEnv, eq_self, if_true, if_false]
        repeat' ((first | rw [guardK_cases] | rw [condK_bool] | rw [guardD_cases]); split <;> simp only [c33_l1, hE, h2, Int.lt_irrefl, evX, Int.reduceEq, Int.reduceLT, Int.reduceLE, Nat.reduceMul, Nat.reduceMod, evW, evR, Nat.reduceAdd, Nat.reduceLT, Nat.reduceLeDiff, reduceIte, Nat.reduceEqDiff, reduceCtorEq, argEnv, eq_self, if_true, if_false, *])
        exact .exit (K := []) ⟨rfl, by rfl⟩) st G hE hH z hz
  have hs : ∀ X, (H ++ ([bBase b] ++ X))[H.length]? = some (bBase b) := fun X => by simp
  simp only [bBase] at hs
  rcases key (H ++ [bBase b]) H.length (.mk (by simp)) _ [] (by rfl) (by simp [bBase]) z hz with ⟨g, c, T, G', rfl, _, rfl, hT⟩ | ⟨g, c, T, G', rfl, _, rfl, hT⟩
  · simp only [hT, evX, Int.reduceEq, Int.reduceLT, Int.reduceLE, Nat.reduceMul, Nat.reduceMod, evW, fn_eq, evR, Nat.reduceAdd, Nat.reduceLT, Nat.reduceLeDiff, reduceIte, Nat.reduceEqDiff, reduceCtorEq, argEnv, eq_self, if_true, if_false]
    repeat' ((first | rw [guardK_cases] | rw [condK_bool] | rw [guardD_cases]); split <;> simp only [hT, evX, Int.reduceEq, Int.reduceLT, Int.reduceLE, Nat.reduceMul, Nat.reduceMod, evW, evR, Nat.reduceAdd, Nat.reduceLT, Nat.reduceLeDiff, reduceIte, Nat.reduceEqDiff, reduceCtorEq, argEnv, eq_self, if_true, if_false, *])
    generalize hz : itLim _ _ = z
    rcases key2 (H ++ [bBase b]) H.length (.mk (by simp)) _ G' (by rfl) (by simp) z hz with ⟨g2, c, T, G', rfl, _, rfl, hT⟩ | ⟨g2, c, T, G', rfl, _, rfl, hT⟩
    · simp only [hT, hs, bBase, h1, h2, h3, evX, Int.reduceEq, Int.reduceLT, Int.reduceLE, Nat.reduceMul, Nat.reduceMod, evW, fn_eq, evR, Nat.reduceAdd, Nat.reduceLT, Nat.reduceLeDiff, reduceIte, Nat.reduceEqDiff, reduceCtorEq, argEnv, eq_self, if_true, if_false]
      repeat' ((first | rw [guardK_cases] | rw [condK_bool] | rw [guardD_cases]); split <;> simp only [hT, hs, bBase, h1, h2, h3, evX, Int.reduceEq, Int.reduceLT, Int.reduceLE, Nat.reduceMul, Nat.reduceMod, evW, evR, Nat.reduceAdd, Nat.reduceLT, Nat.reduceLeDiff, reduceIte, Nat.reduceEqDiff, reduceCtorEq, argEnv, eq_self, if_true, if_false, *])
      all_goals (simp_all [small]; try omega)
    · simp only [hT, evX, Int.reduceEq, Int.reduceLT, Int.reduceLE, Nat.reduceMul, Nat.reduceMod, evW, fn_eq, evR, Nat.reduceAdd, Nat.reduceLT, Nat.reduceLeDiff, reduceIte, Nat.reduceEqDiff, reduceCtorEq, argEnv, eq_self, if_true, if_false]
      repeat' ((first | rw [guardK_cases] | rw [condK_bool] | rw [guardD_cases]); split <;> simp only [hT, evX, Int.reduceEq, Int.reduceLT, Int.reduceLE, Nat.reduceMul, Nat.reduceMod, evW, evR, Nat.reduceAdd, Nat.reduceLT, Nat.reduceLeDiff, reduceIte, Nat.reduceEqDiff, reduceCtorEq, argEnv, eq_self, if_true, if_false, *])
      simp [small, g2]
  · simp only [hT, evX, Int.reduceEq, Int.reduceLT, Int.reduceLE, Nat.reduceMul, Nat.reduceMod, evW, fn_eq, evR, Nat.reduceAdd, Nat.reduceLT, Nat.reduceLeDiff, reduceIte, Nat.reduceEqDiff, reduceCtorEq, argEnv, eq_self, if_true, if_false]
    repeat' ((first | rw [guardK_cases] | rw [condK_bool] | rw [guardD_cases]); split <;> simp only [hT, evX, Int.reduceEq, Int.reduceLT, Int.reduceLE, Nat.reduceMul, Nat.reduceMod, evW, evR, Nat.reduceAdd, Nat.reduceLT, Nat.reduceLeDiff, reduceIte, Nat.reduceEqDiff, reduceCtorEq, argEnv, eq_self, if_true, if_false, *])
    simp [small, g]
end Go.Proofs.Ytbchmbddcdionaa.Code

/- logic: in place of plain's Ru (First is not here). -/
set_option linter.unusedSimpArgs false
set_option linter.unusedVariables false
namespace Go.Proofs.Ytbchmbddcdionaa.Code
end Go.Proofs.Ytbchmbddcdionaa.Code

/- plain: the laws' arguments, opened. -/
set_option linter.unusedSimpArgs false
set_option linter.unusedVariables false
namespace Go.Proofs.Ytbchmbddcdionaa.Code
open Go.Proofs.Ytbchmbddcdionaa.Ev Go.RowKit

theorem typed {α : Type} {P : List AV → Prop} {enc : α → List AV} {Q : α → Prop} (h : ∀ r, P r → ∃ x, r = enc x ∧ Q x) : ∀ l : List (List AV), (∀ r ∈ l, P r) → ∃ xs : List α, l = xs.map enc ∧ ∀ x ∈ xs, Q x
  | [], _ => ⟨[], rfl, by simp⟩
  | r :: l, hl => by
    obtain ⟨x, rfl, hx⟩ := h r (hl r (List.mem_cons_self ..))
    obtain ⟨xs, rfl, hxs⟩ := typed h l fun r hr => hl r (List.mem_cons_of_mem _ hr)
    exact ⟨x :: xs, rfl, fun y hy => by (rcases List.mem_cons.1 hy with rfl | hy; exact hx; exact hxs y hy)⟩
theorem reach_lt {n : Nat} (h : n ≤ reachBytes) : n < 9223372036854775807 := by unfold reachBytes at h; omega
theorem open_Fd {r : List AV} (h : HasL [.str, .int .i64, .int .i64] r) : ∃ x : Fd, r = rFd x ∧ x.Ok := by
  simp only [HasL.eq_2, HasL.eq_1, Has] at h
  obtain ⟨x, xs, rfl, ⟨s, rfl, hs⟩, y, ys, rfl, ⟨f, rfl, _⟩, z, zs, rfl, ⟨o, rfl, _⟩, rfl⟩ := h
  exact ⟨⟨s, f, o⟩, rfl, ⟨reach_lt hs⟩⟩
theorem open_Se {r : List AV} (h : HasL [.str, .int .i64, .int .i64, .str] r) : ∃ x : Se, r = rSe x ∧ x.Ok := by
  simp only [HasL.eq_2, HasL.eq_1, Has] at h
  obtain ⟨x, xs, rfl, ⟨s, rfl, hs⟩, y, ys, rfl, ⟨f, rfl, _⟩, z, zs, rfl, ⟨o, rfl, _⟩, w, ws, rfl, ⟨p, rfl, hp⟩, rfl⟩ := h
  exact ⟨⟨s, f, o, p⟩, rfl, ⟨reach_lt hs, reach_lt hp⟩⟩
theorem open_Item {r : List AV} (h : HasL [.int .i64, .str] r) : ∃ x : Item, r = rItem x ∧ True := by
  simp only [HasL.eq_2, HasL.eq_1, Has] at h
  obtain ⟨x, xs, rfl, ⟨s, rfl, _⟩, y, ys, rfl, ⟨f, rfl, _⟩, rfl⟩ := h
  exact ⟨⟨s, f⟩, rfl, trivial⟩
theorem open_Ty {r : List AV} (h : HasL [.str, .int .i64, .int .i64, .int .i64, .sl [.str, .int .i64, .int .i64], .int .i64, .bool, .bool] r) : ∃ x : Ty, r = rTy x ∧ x.Ok := by
  simp only [HasL.eq_2, HasL.eq_1, Has] at h
  obtain ⟨_, _, rfl, ⟨a, rfl, ha⟩, _, _, rfl, ⟨b, rfl, _⟩, _, _, rfl, ⟨c, rfl, _⟩, _, _, rfl, ⟨d, rfl, _⟩, _, _, rfl, ⟨l, rfl, hl, hr⟩, _, _, rfl, ⟨e, rfl, _⟩, _, _, rfl, ⟨f, rfl⟩, _, _, rfl, ⟨g, rfl⟩, rfl⟩ := h
  obtain ⟨fs, rfl, hq⟩ := typed (P := HasL [.str, .int .i64, .int .i64]) (fun r h => open_Fd h) l (fun r h => by simpa only [HasL.eq_2, HasL.eq_1, Has] using hr r h)
  exact ⟨⟨a, b, c, d, fs, e, f, g⟩, rfl, ⟨reach_lt ha, reach_lt (by simpa using hl), hq⟩⟩
end Go.Proofs.Ytbchmbddcdionaa.Code

/- plain: ends of subtrees (mathematics). -/
set_option linter.unusedSimpArgs false
set_option linter.unusedVariables false
namespace Go.Proofs.Ytbchmbddcdionaa.Code
open Go.Proofs.Ytbchmbddcdionaa.Ev

/-- a base and a forest that are right -/
structure Right (b : Base) (f : List Item) : Prop where
  base : b.Ok
  valid : validB b = true
  forest : forestOk b.types f = true
theorem Right.tys {b : Base} {f : List Item} (h : Right b f) : tysOk b.types = true := valid_tys h.valid
theorem Right.len {b : Base} {f : List Item} (h : Right b f) : f.length ≤ 200 := by
  have := h.forest
  simp only [forestOk, Bool.and_eq_true, decide_eq_true_eq] at this
  omega
theorem Right.ok {b : Base} {f : List Item} (h : Right b f) : FOk b.types f f.length := fun j x _ hx => by
  have := h.forest
  simp only [forestOk, Bool.and_eq_true] at this
  exact tell_true.1 this.2 j x hx
theorem Right.fits {b : Base} {f : List Item} (h : Right b f) : AllFit b.types f := fun i x hx => ok_fits (h.ok i x (List.getElem?_eq_some_iff.1 hx).1 hx)
/-- an item has a type -/
theorem Right.item {b : Base} {f : List Item} (h : Right b f) {i : Nat} (hi : i < f.length) : ∃ (x : Item) (k : Nat) (t : Ty), f[i]? = some x ∧ x.type = (k : Int) ∧ k < b.types.length ∧ b.types[k]? = some t ∧ tyOk t = true ∧ t.min ≤ x.data.size ∧ (x.data.size : Int) ≤ t.size := by
  obtain ⟨x, hx⟩ : ∃ x, f[i]? = some x := ⟨_, List.getElem?_eq_getElem hi⟩
  obtain ⟨k, t, h1, h2, h3, h4, h5⟩ := fits_some (h.fits i x hx)
  have hty : tyOk t = true := by have := tell_true.1 h.tys k t h3; simp only [tyAt, Bool.and_eq_true] at this; exact this.1.1.1
  exact ⟨x, k, t, hx, h1, h2, h3, hty, h4, h5⟩
/-- the parent of an item -/
theorem Right.par {b : Base} {f : List Item} (h : Right b f) {i : Nat} {x : Item} {k : Nat} {t : Ty} (hx : f[i]? = some x) (hk : x.type = (k : Int)) (ht : b.types[k]? = some t) :
    (t.parent < 0 ∧ par b.types f i = -1 ∧ k = 0) ∨ ∃ p : Nat, par b.types f i = (p : Int) ∧ p < i ∧ (p : Int) ∈ way b.types f i ∧ 0 ≤ t.parent ∧ t.parent < (k : Int) ∧ typ f (p : Int) = t.parent := by
  have hi := (List.getElem?_eq_some_iff.1 hx).1
  have hpt : tpar b.types x.type = t.parent := by rw [hk, tpar_at ht]
  by_cases hp : t.parent < 0
  · exact .inl ⟨hp, by unfold Code.par; rw [typ_at hx, hpt, if_pos hp], (tys_root h.tys ht).1 hp⟩
  · have hok := h.ok i x hi hx
    simp only [okAt, Bool.and_eq_true, Bool.or_eq_true, decide_eq_true_eq, tell_true, hpt] at hok
    have hm : Code.par b.types f i ∈ way b.types f i := by rcases hok.1.2 with h1 | h1; (· omega); exact h1
    have hb := way_bound hm
    have hg := tys_good h.tys k t (List.getElem?_eq_some_iff.1 ht).1 ht
    refine .inr ⟨(Code.par b.types f i).toNat, by omega, by omega, by rw [Int.toNat_of_nonneg hb.1]; exact hm, by omega, by omega, ?_⟩
    rw [Int.toNat_of_nonneg hb.1, (par_typ hb.1).1, typ_at hx, hpt]
/-- the way of an item is as long as that of its type -/
theorem pth_len {b : Base} {f : List Item} (h : Right b f) : ∀ (n i : Nat), i ≤ n → i < f.length → (pth b.types f i).length = (anc b.types (typ f (i : Int)).toNat).length := by
  intro n
  induction n with
  | zero =>
    intro i hn hi
    obtain rfl : i = 0 := by omega
    obtain ⟨x, k, t, hx, hk, hkl, ht, _⟩ := h.item hi
    rw [pth_eq _ _ hi, typ_at hx, hk, Int.toNat_natCast, anc_step (tys_good h.tys) hkl ht]
    rcases h.par hx hk ht with ⟨h1, h2, _⟩ | ⟨p, h1, h2, _⟩
    · rw [h2, pthI_neg _ _ (by omega), ancI_neg _ h1]; rfl
    · omega
  | succ n ih =>
    intro i hn hi
    obtain ⟨x, k, t, hx, hk, hkl, ht, _⟩ := h.item hi
    rw [pth_eq _ _ hi, typ_at hx, hk, Int.toNat_natCast, anc_step (tys_good h.tys) hkl ht]
    rcases h.par hx hk ht with ⟨h1, h2, _⟩ | ⟨p, h1, h2, _, h4, _, h6⟩
    · rw [h2, pthI_neg _ _ (by omega), ancI_neg _ h1]; rfl
    · have := ih p (by omega) (by omega)
      rw [h6] at this
      obtain ⟨q, hq⟩ : ∃ q : Nat, t.parent = (q : Int) := ⟨t.parent.toNat, by omega⟩
      rw [hq, Int.toNat_natCast] at this
      rw [h1, pthI_nat, hq, ancI_nat]
      simp [this]
/-- where the way of the next item parts from a way -/
theorem way_cut {b : Base} {f : List Item} (h : Right b f) {k : Nat} (hk : k < f.length) : pth b.types f k = (way b.types f k).take (nOf b.types f k) ++ [(k : Int)] ∧ nOf b.types f k ≤ (way b.types f k).length := by
  obtain ⟨x, c, t, hx, hc, hcl, ht, _⟩ := h.item hk
  unfold nOf
  rw [pth_eq _ _ hk]
  rcases h.par hx hc ht with ⟨h1, h2, _⟩ | ⟨p, h1, h2, h3, h4, _, h6⟩
  · rw [h2, pthI_neg _ _ (by omega)]; simp
  · rw [h1, pthI_nat]
    obtain ⟨m, hm⟩ := List.getElem?_of_mem h3
    have ht := take_way b.types f (by omega) hm
    rw [Int.toNat_natCast] at ht
    have hml := (List.getElem?_eq_some_iff.1 hm).1
    have hl : (pth b.types f p).length = m + 1 := by rw [← ht, List.length_take]; omega
    rw [hl, ht]
    exact ⟨rfl, by omega⟩
theorem nodup_anc (ts : List Ty) : ∀ (n k : Nat), k ≤ n → (anc ts k).Nodup := by
  intro n
  induction n with
  | zero =>
    intro k hk
    obtain rfl : k = 0 := by omega
    rw [anc]
    split
    · rw [dif_neg (by omega)]; simp
    · simp
  | succ n ih =>
    intro k hk
    rw [anc]
    split
    · split
      · rename_i t _ h
        rw [List.nodup_append]
        refine ⟨ih _ (by omega), by simp, fun a ha b hb => ?_⟩
        have := anc_bound ha
        simp at hb
        omega
      · simp
    · simp
theorem mem_take_nodup {l : List Int} (h : l.Nodup) {m n : Nat} {a : Int} (hm : l[m]? = some a) : a ∈ l.take n ↔ m < n := by
  constructor
  · intro ha
    obtain ⟨j, hj⟩ := List.getElem?_of_mem ha
    rw [List.getElem?_take] at hj
    split at hj
    · have := (List.getElem?_eq_some_iff.1 hm).1
      have := (List.getElem?_inj this h).1 (hm.trans hj.symm)
      omega
    · cases hj
  · intro hn
    exact List.mem_of_getElem? (i := m) (by rw [List.getElem?_take, if_pos hn, hm])
theorem way_nodup (ts : List Ty) (f : List Item) (i : Nat) : (way ts f i).Nodup := by
  cases i with
  | zero => simp [way, wayTo]
  | succ i => exact nodup_anc _ i i (Nat.le_refl _)
/-- an item on the way ahead is on the way if and only if the way is longer than its own -/
theorem below_len {b : Base} {f : List Item} (h : Right b f) {i k : Nat} (hi : i < k) (hk : k < f.length) (hm : (i : Int) ∈ way b.types f k) : (i : Int) ∈ pth b.types f k ↔ (pth b.types f i).length < (pth b.types f k).length := by
  obtain ⟨h1, h2⟩ := way_cut h hk
  obtain ⟨m, hm⟩ := List.getElem?_of_mem hm
  have ht := take_way b.types f (by omega) hm
  rw [Int.toNat_natCast] at ht
  have hml := (List.getElem?_eq_some_iff.1 hm).1
  have hl : (pth b.types f i).length = m + 1 := by rw [← ht, List.length_take]; omega
  rw [hl, h1, List.mem_append, mem_take_nodup (way_nodup _ _ _) hm, List.length_append, List.length_take, Nat.min_eq_left h2]
  simp
  omega
/-- behind the subtree of an item -/
structure IsEnd (ts : List Ty) (f : List Item) (i e : Nat) : Prop where
  lt : i < e
  le : e ≤ f.length
  all : ∀ k : Nat, i < k → k < e → (i : Int) ∈ pth ts f k
  no : e < f.length → (i : Int) ∉ pth ts f e
theorem IsEnd.uniq {ts : List Ty} {f : List Item} {i e e' : Nat} (h : IsEnd ts f i e) (h' : IsEnd ts f i e') : e = e' := by
  by_cases h1 : e < e'
  · have := h'.le
    exact absurd (h'.all e h.lt h1) (h.no (by omega))
  · by_cases h2 : e' < e
    · have := h.le
      exact absurd (h.all e' h'.lt h2) (h'.no (by omega))
    · omega
def endFrom (ts : List Ty) (f : List Item) (i : Nat) : Nat → Nat → Nat
  | 0, k => k
  | n + 1, k => if (i : Int) ∈ pth ts f k then endFrom ts f i n (k + 1) else k
def endOf (ts : List Ty) (f : List Item) (i : Nat) : Nat := endFrom ts f i (f.length - (i + 1)) (i + 1)
theorem endFrom_is (ts : List Ty) (f : List Item) (i : Nat) : ∀ (n k : Nat), n + k = f.length → i < k → (∀ j : Nat, i < j → j < k → (i : Int) ∈ pth ts f j) → IsEnd ts f i (endFrom ts f i n k)
  | 0, k, hn, hk, h => ⟨hk, by simp [endFrom]; omega, h, fun h => by simp [endFrom] at h; omega⟩
  | n + 1, k, hn, hk, h => by
    unfold endFrom
    split
    · rename_i hm
      refine endFrom_is ts f i n (k + 1) (by omega) (by omega) fun j h1 h2 => ?_
      by_cases e : j = k
      · subst e; exact hm
      · exact h j h1 (by omega)
    · rename_i hm
      exact ⟨hk, by omega, h, fun _ => hm⟩
theorem endOf_is (ts : List Ty) (f : List Item) {i : Nat} (hi : i < f.length) : IsEnd ts f i (endOf ts f i) := endFrom_is ts f i _ _ (by omega) (by omega) fun j h1 h2 => by omega
/-- what is ahead of a place in a subtree is in that subtree -/
theorem IsEnd.way {ts : List Ty} {f : List Item} {i e : Nat} (hall : ∀ k : Nat, i < k → k < e → (i : Int) ∈ pth ts f k) {k : Nat} (h1 : i < k) (h2 : k ≤ e) : (i : Int) ∈ way ts f k := by
  obtain ⟨k, rfl⟩ : ∃ j, k = j + 1 := ⟨k - 1, by omega⟩
  change (i : Int) ∈ pth ts f k
  by_cases e' : k = i
  · subst e'; exact pth_self ts f k
  · exact hall k (by omega) (by omega)
end Go.Proofs.Ytbchmbddcdionaa.Code

/- plain: what is asked of bases, forests and places; parents, depths and ends. -/
set_option linter.unusedSimpArgs false
set_option linter.unusedVariables false
namespace Go.Proofs.Ytbchmbddcdionaa.Code
open Go.Proofs.Ytbchmbddcdionaa.Ev

def outOf (f : List Item) (i : Int) : Bool := decide (i < 0) || decide ((f.length : Int) ≤ i)
noncomputable def errF (b : Base) (f : List Item) (l : List Int) : Int := if validB b = true then (if forestOk b.types f = true then (if l.any (outOf f) = true then 2 else 0) else 120) else 100
theorem slI {H : Heap} {a : AV} {l : List Int} (h : SlAt H 1 a (l.map rI)) {i : Nat} {n : Int} (hi : l[i]? = some n) : ∃ p, iaddrK 1 (some a) (some (.int .i64 (i : Int))) = some p ∧ ∀ X, loadK false 1 (H ++ X) (some p) = some (.int .i64 n) := by
  obtain ⟨_, p, h1, h2⟩ := h.get i (rI n) (by rw [List.getElem?_map, hi]; rfl)
  exact ⟨p, h1, fun X => h2.onex X⟩
theorem f87 (f : List Item) (i : Int) (b1 : Nat) (H : Heap) (h1 : Sits H b1 (bItems f)) : cal (evC cprog) false 87 [.int .i64 i, .ptr b1 0 1 0 0] H = some (.bool (outOf f i), H) := by
  rw [cal_of at87]
  have hlen := (sItems [] f).len
  simp only [List.length_map] at hlen
  have g1 := h1.at
  simp only [bItems] at g1
  simp only [c87, hlen, g1, evX, Int.reduceEq, Int.reduceLT, Int.reduceLE, Nat.reduceMul, Nat.reduceMod, evW, fn_eq, evR, Nat.reduceAdd, Nat.reduceLT, Nat.reduceLeDiff, reduceIte, Nat.reduceEqDiff, reduceCtorEq, argEnv, eq_self, if_true, if_false]
  repeat' ((first | rw [guardK_cases] | rw [condK_bool] | rw [guardD_cases]); split <;> simp only [c87, hlen, g1, evX, Int.reduceEq, Int.reduceLT, Int.reduceLE, Nat.reduceMul, Nat.reduceMod, evW, evR, Nat.reduceAdd, Nat.reduceLT, Nat.reduceLeDiff, reduceIte, Nat.reduceEqDiff, reduceCtorEq, argEnv, eq_self, if_true, if_false, *])
  all_goals (simp_all [outOf]; try omega)
theorem f61 (b : Base) (hb : b.Ok) (f : List Item) (a : AV) (hat : a.isTup = false) (l : List Int) (hl : l.length < 9223372036854775807) (H : Heap) (ha : SlAt H 1 a (l.map rI)) : cal (evC cprog) false 61 [eBase b, eItems f, a] H = some (.int .i64 (errF b f l), H) := by
  rw [cal_of at61]
  have h1 := f42 b hb
  simp only [eBase] at h1
  cases hv : validB b with
  | false =>
    simp only [c61, eBase, cells_eItems, isTup_eItems, h1, hv, evX, Int.reduceEq, Int.reduceLT, Int.reduceLE, Nat.reduceMul, Nat.reduceMod, evW, fn_eq, evR, Nat.reduceAdd, Nat.reduceLT, Nat.reduceLeDiff, reduceIte, Nat.reduceEqDiff, reduceCtorEq, argEnv, eq_self, if_true, if_false]
    repeat' ((first | rw [guardK_cases] | rw [condK_bool] | rw [guardD_cases]); split <;> simp only [c61, eBase, cells_eItems, isTup_eItems, h1, hv, evX, Int.reduceEq, Int.reduceLT, Int.reduceLE, Nat.reduceMul, Nat.reduceMod, evW, evR, Nat.reduceAdd, Nat.reduceLT, Nat.reduceLeDiff, reduceIte, Nat.reduceEqDiff, reduceCtorEq, argEnv, eq_self, if_true, if_false, *])
    simp [errF, hv]
  | true =>
    have h2 := f85 b (valid_tys hv) f
    simp only [eBase] at h2
    cases hf : forestOk b.types f with
    | false =>
      simp only [c61, eBase, cells_eItems, isTup_eItems, h1, hv, h2, hf, evX, Int.reduceEq, Int.reduceLT, Int.reduceLE, Nat.reduceMul, Nat.reduceMod, evW, fn_eq, evR, Nat.reduceAdd, Nat.reduceLT, Nat.reduceLeDiff, reduceIte, Nat.reduceEqDiff, reduceCtorEq, argEnv, eq_self, if_true, if_false]
      repeat' ((first | rw [guardK_cases] | rw [condK_bool] | rw [guardD_cases]); split <;> simp only [c61, eBase, cells_eItems, isTup_eItems, h1, hv, h2, hf, evX, Int.reduceEq, Int.reduceLT, Int.reduceLE, Nat.reduceMul, Nat.reduceMod, evW, evR, Nat.reduceAdd, Nat.reduceLT, Nat.reduceLeDiff, reduceIte, Nat.reduceEqDiff, reduceCtorEq, argEnv, eq_self, if_true, if_false, *])
      simp [errF, hv, hf]
    | true =>
      have h65 := containsFunc_ok (g := 109) at86 (indexFunc_ok (sz := 1) (ag := false) at109 rI (fun x => .int .i64 x) lI 87 [.ptr (H.length + 1) 0 1 0 0] (outOf f) (H ++ [bBase b, bItems f]) a l (ha.app _) hl fun x _ => f87 f x (H.length + 1) _ (.mk (by simp)))
      simp only [bBase, bItems] at h65
      cases hc : l.any (outOf f) with
      | false =>
        simp only [c61, eBase, cells_eItems, isTup_eItems, h1, hv, h2, hf, h65, hc, scal_ptr, hat, evX, Int.reduceEq, Int.reduceLT, Int.reduceLE, Nat.reduceMul, Nat.reduceMod, evW, fn_eq, evR, Nat.reduceAdd, Nat.reduceLT, Nat.reduceLeDiff, reduceIte, Nat.reduceEqDiff, reduceCtorEq, argEnv, eq_self, if_true, if_false]
        repeat' ((first | rw [guardK_cases] | rw [condK_bool] | rw [guardD_cases]); split <;> simp only [c61, eBase, cells_eItems, isTup_eItems, h1, hv, h2, hf, h65, hc, scal_ptr, hat, evX, Int.reduceEq, Int.reduceLT, Int.reduceLE, Nat.reduceMul, Nat.reduceMod, evW, evR, Nat.reduceAdd, Nat.reduceLT, Nat.reduceLeDiff, reduceIte, Nat.reduceEqDiff, reduceCtorEq, argEnv, eq_self, if_true, if_false, *])
        simp [errF, hv, hf, hc]
      | true =>
        simp only [c61, eBase, cells_eItems, isTup_eItems, h1, hv, h2, hf, h65, hc, scal_ptr, hat, evX, Int.reduceEq, Int.reduceLT, Int.reduceLE, Nat.reduceMul, Nat.reduceMod, evW, fn_eq, evR, Nat.reduceAdd, Nat.reduceLT, Nat.reduceLeDiff, reduceIte, Nat.reduceEqDiff, reduceCtorEq, argEnv, eq_self, if_true, if_false]
        repeat' ((first | rw [guardK_cases] | rw [condK_bool] | rw [guardD_cases]); split <;> simp only [c61, eBase, cells_eItems, isTup_eItems, h1, hv, h2, hf, h65, hc, scal_ptr, hat, evX, Int.reduceEq, Int.reduceLT, Int.reduceLE, Nat.reduceMul, Nat.reduceMod, evW, evR, Nat.reduceAdd, Nat.reduceLT, Nat.reduceLeDiff, reduceIte, Nat.reduceEqDiff, reduceCtorEq, argEnv, eq_self, if_true, if_false, *])
        simp [errF, hv, hf, hc]
theorem f67 (b : Base) (hb : b.Ok) (f : List Item) (hfl : f.length < 9223372036854775807) (a : AV) (l : List Int) (hl : l.length < 9223372036854775807) (H : Heap) (ha : SlAt H 1 a (l.map rI)) : cal (evC cprog) false 67 [eBase b, eItems f, a] H = some (.int .i64 (errF b f l), H) := by
  rw [cal_of at67]
  have h1 := f44 b hb
  simp only [eBase] at h1
  have hlen := (sItems [] f).len
  have hlen' := ha.len
  simp only [List.length_map] at hlen hlen'
  cases hv : validB b with
  | false =>
    simp only [c67, eBase, h1, hv, evX, Int.reduceEq, Int.reduceLT, Int.reduceLE, Nat.reduceMul, Nat.reduceMod, evW, fn_eq, evR, Nat.reduceAdd, Nat.reduceLT, Nat.reduceLeDiff, reduceIte, Nat.reduceEqDiff, reduceCtorEq, argEnv, eq_self, if_true, if_false]
    repeat' ((first | rw [guardK_cases] | rw [condK_bool] | rw [guardD_cases]); split <;> simp only [c67, eBase, h1, hv, evX, Int.reduceEq, Int.reduceLT, Int.reduceLE, Nat.reduceMul, Nat.reduceMod, evW, evR, Nat.reduceAdd, Nat.reduceLT, Nat.reduceLeDiff, reduceIte, Nat.reduceEqDiff, reduceCtorEq, argEnv, eq_self, if_true, if_false, *])
    simp [errF, hv]
  | true =>
    have h2 := f92 b (valid_tys hv) f
    simp only [eBase] at h2
    cases hf : forestOk b.types f with
    | false =>
      simp only [c67, eBase, h1, hv, h2, hf, evX, Int.reduceEq, Int.reduceLT, Int.reduceLE, Nat.reduceMul, Nat.reduceMod, evW, fn_eq, evR, Nat.reduceAdd, Nat.reduceLT, Nat.reduceLeDiff, reduceIte, Nat.reduceEqDiff, reduceCtorEq, argEnv, eq_self, if_true, if_false]
      repeat' ((first | rw [guardK_cases] | rw [condK_bool] | rw [guardD_cases]); split <;> simp only [c67, eBase, h1, hv, h2, hf, evX, Int.reduceEq, Int.reduceLT, Int.reduceLE, Nat.reduceMul, Nat.reduceMod, evW, evR, Nat.reduceAdd, Nat.reduceLT, Nat.reduceLeDiff, reduceIte, Nat.reduceEqDiff, reduceCtorEq, argEnv, eq_self, if_true, if_false, *])
      simp [errF, hv, hf]
    | true =>
      simp only [c67, eBase, h1, hv, h2, hf, evX, Int.reduceEq, Int.reduceLT, Int.reduceLE, Nat.reduceMul, Nat.reduceMod, evW, fn_eq, evR, Nat.reduceAdd, Nat.reduceLT, Nat.reduceLeDiff, reduceIte, Nat.reduceEqDiff, reduceCtorEq, argEnv, eq_self, if_true, if_false]
      repeat' ((first | rw [guardK_cases] | rw [condK_bool] | rw [guardD_cases]); split <;> simp only [c67, eBase, h1, hv, h2, hf, evX, Int.reduceEq, Int.reduceLT, Int.reduceLE, Nat.reduceMul, Nat.reduceMod, evW, evR, Nat.reduceAdd, Nat.reduceLT, Nat.reduceLeDiff, reduceIte, Nat.reduceEqDiff, reduceCtorEq, argEnv, eq_self, if_true, if_false, *])
      generalize hz : itLim _ _ = z
      have L := all_rule l (fun i => !outOf f i) [1, 2, 7] (fun i => [(1, eItems f), (2, a), (7, .int .i64 (i : Int))]) H [bBase b] (evCode (evC cprog) itLim c67_l0) (fun c T => c = .exit 1) (fun c T => c = .ret ∧ get T 6 = some (.int .i64 2))
        (fun i x hx E G hE => by
          have hlt : i < l.length := (List.getElem?_eq_some_iff.1 hx).1
          have hi : (i : Int) < (l.length : Int) := by omega
          obtain ⟨p, g1, g2⟩ := slI ha hx
          have hw := wrapS hlt hl
          by_cases n1 : x < 0
          · simp only [c67_l0, hE, hi, hlen', g1, g2, n1, evX, Int.reduceEq, Int.reduceLT, Int.reduceLE, Nat.reduceMul, Nat.reduceMod, evW, fn_eq, evR, Nat.reduceAdd, Nat.reduceLT, Nat.reduceLeDiff, reduceIte, Nat.reduceEqDiff, reduceCtorEq, argEnv, eq_self, if_true, if_false]
            repeat' ((first | rw [guardK_cases] | rw [condK_bool] | rw [guardD_cases]); split <;> simp only [c67_l0, hE, hi, hlen', g1, g2, n1, evX, Int.reduceEq, Int.reduceLT, Int.reduceLE, Nat.reduceMul, Nat.reduceMod, evW, evR, Nat.reduceAdd, Nat.reduceLT, Nat.reduceLeDiff, reduceIte, Nat.reduceEqDiff, reduceCtorEq, argEnv, eq_self, if_true, if_false, *])
            exact Sc.ret (by simp [outOf, n1]) ⟨rfl, rfl⟩
          by_cases n2 : (f.length : Int) ≤ x
          · simp only [c67_l0, hE, hi, hlen', hlen, g1, g2, n1, n2, evX, Int.reduceEq, Int.reduceLT, Int.reduceLE, Nat.reduceMul, Nat.reduceMod, evW, fn_eq, evR, Nat.reduceAdd, Nat.reduceLT, Nat.reduceLeDiff, reduceIte, Nat.reduceEqDiff, reduceCtorEq, argEnv, eq_self, if_true, if_false]
            repeat' ((first | rw [guardK_cases] | rw [condK_bool] | rw [guardD_cases]); split <;> simp only [c67_l0, hE, hi, hlen', hlen, g1, g2, n1, n2, evX, Int.reduceEq, Int.reduceLT, Int.reduceLE, Nat.reduceMul, Nat.reduceMod, evW, evR, Nat.reduceAdd, Nat.reduceLT, Nat.reduceLeDiff, reduceIte, Nat.reduceEqDiff, reduceCtorEq, argEnv, eq_self, if_true, if_false, *])
            exact Sc.ret (by simp [outOf, n2]) ⟨rfl, rfl⟩
          · simp only [c67_l0, hE, hi, hlen', hlen, g1, g2, n1, n2, hw, evX, Int.reduceEq, Int.reduceLT, Int.reduceLE, Nat.reduceMul, Nat.reduceMod, evW, fn_eq, evR, Nat.reduceAdd, Nat.reduceLT, Nat.reduceLeDiff, reduceIte, Nat.reduceEqDiff, reduceCtorEq, argEnv, eq_self, if_true, if_false]
            repeat' ((first | rw [guardK_cases] | rw [condK_bool] | rw [guardD_cases]); split <;> simp only [c67_l0, hE, hi, hlen', hlen, g1, g2, n1, n2, hw, evX, Int.reduceEq, Int.reduceLT, Int.reduceLE, Nat.reduceMul, Nat.reduceMod, evW, evR, Nat.reduceAdd, Nat.reduceLT, Nat.reduceLeDiff, reduceIte, Nat.reduceEqDiff, reduceCtorEq, argEnv, eq_self, if_true, if_false, *])
            exact Sc.next (by simp [outOf]; omega) (by rfl))
        (fun E G hE => by
          simp only [c67_l0, hE, hlen', Int.lt_irrefl, evX, Int.reduceEq, Int.reduceLT, Int.reduceLE, Nat.reduceMul, Nat.reduceMod, evW, fn_eq, evR, Nat.reduceAdd, Nat.reduceLT, Nat.reduceLeDiff, reduceIte, Nat.reduceEqDiff, reduceCtorEq, argEnv, eq_self, if_true, if_false]
          repeat' ((first | rw [guardK_cases] | rw [condK_bool] | rw [guardD_cases]); split <;> simp only [c67_l0, hE, hlen', Int.lt_irrefl, evX, Int.reduceEq, Int.reduceLT, Int.reduceLE, Nat.reduceMul, Nat.reduceMod, evW, evR, Nat.reduceAdd, Nat.reduceLT, Nat.reduceLeDiff, reduceIte, Nat.reduceEqDiff, reduceCtorEq, argEnv, eq_self, if_true, if_false, *])
          exact .exit (K := [bBase b]) rfl) _ [] (by rfl) (by simp [bBase]) z hz
      rcases L with ⟨ha, c, T, G, rfl, _, rfl⟩ | ⟨ha, c, T, G, rfl, _, rfl, hT⟩
      · simp only [evX, Int.reduceEq, Int.reduceLT, Int.reduceLE, Nat.reduceMul, Nat.reduceMod, evW, fn_eq, evR, Nat.reduceAdd, Nat.reduceLT, Nat.reduceLeDiff, reduceIte, Nat.reduceEqDiff, reduceCtorEq, argEnv, eq_self, if_true, if_false]
        repeat' ((first | rw [guardK_cases] | rw [condK_bool] | rw [guardD_cases]); split <;> simp only [evX, Int.reduceEq, Int.reduceLT, Int.reduceLE, Nat.reduceMul, Nat.reduceMod, evW, evR, Nat.reduceAdd, Nat.reduceLT, Nat.reduceLeDiff, reduceIte, Nat.reduceEqDiff, reduceCtorEq, argEnv, eq_self, if_true, if_false, *])
        have : l.any (outOf f) = false := by rw [List.any_eq_false]; intro x hx; have := List.all_eq_true.1 ha x hx; simpa using this
        simp [errF, hv, hf, this]
      · simp only [hT, evX, Int.reduceEq, Int.reduceLT, Int.reduceLE, Nat.reduceMul, Nat.reduceMod, evW, fn_eq, evR, Nat.reduceAdd, Nat.reduceLT, Nat.reduceLeDiff, reduceIte, Nat.reduceEqDiff, reduceCtorEq, argEnv, eq_self, if_true, if_false]
        repeat' ((first | rw [guardK_cases] | rw [condK_bool] | rw [guardD_cases]); split <;> simp only [hT, evX, Int.reduceEq, Int.reduceLT, Int.reduceLE, Nat.reduceMul, Nat.reduceMod, evW, evR, Nat.reduceAdd, Nat.reduceLT, Nat.reduceLeDiff, reduceIte, Nat.reduceEqDiff, reduceCtorEq, argEnv, eq_self, if_true, if_false, *])
        have : l.any (outOf f) = true := by
          obtain ⟨x, hx, h⟩ := List.all_eq_false.1 ha
          rw [List.any_eq_true]; exact ⟨x, hx, by simpa using h⟩
        simp [errF, hv, hf, this]
theorem f88 (b : Base) (ht : tysOk b.types = true) (k : Nat) (hk : k < b.types.length) (h8 : b.types.length ≤ 1000) (H : Heap) : cal (evC cprog) false 88 [eBase b, .int .i64 (k : Int)] H = some (.int .i64 ((anc b.types k).length : Int), H) := by
  rw [cal_of at88]
  simp only [c88, eBase, evX, Int.reduceEq, Int.reduceLT, Int.reduceLE, Nat.reduceMul, Nat.reduceMod, evW, fn_eq, evR, Nat.reduceAdd, Nat.reduceLT, Nat.reduceLeDiff, reduceIte, Nat.reduceEqDiff, reduceCtorEq, argEnv, eq_self, if_true, if_false]
  repeat' ((first | rw [guardK_cases] | rw [condK_bool] | rw [guardD_cases]); split <;> simp only [c88, eBase, evX, Int.reduceEq, Int.reduceLT, Int.reduceLE, Nat.reduceMul, Nat.reduceMod, evW, evR, Nat.reduceAdd, Nat.reduceLT, Nat.reduceLeDiff, reduceIte, Nat.reduceEqDiff, reduceCtorEq, argEnv, eq_self, if_true, if_false, *])
  generalize hz : itLim _ _ = z
  have key : ∀ H' : Heap, Sits H' H.length (bBase b) → ∀ st : St, keepEnv st.1 [1, 2, 5] = [(1, .int .i64 (k : Int)), (2, .ptr H.length 0 4 0 0), (5, .int .i64 0)] → st.2 = H' → ∀ z, itLim (evCode (evC cprog) itLim c88_l0) st = z → ∃ T, z = some (.exit 0, T, H') ∧ get T 5 = some (.int .i64 ((anc b.types k).length : Int)) := by
    intro H' hs st h1 h2 z hz
    simp only [bBase, Sits] at hs
    have hs0 := hs []
    simp only [List.append_nil] at hs0
    have L := loop_rule (σ := Int × Nat) (m := [1, 2, 5]) (env := fun s => [(1, .int .i64 s.1), (2, .ptr H.length 0 4 0 0), (5, .int .i64 (s.2 : Int))]) (hp := fun _ => H')
      (P := fun s r => ∃ T, r = (.exit 0, T, H') ∧ get T 5 = some (.int .i64 (((ancI b.types s.1).length + s.2 : Nat) : Int))) (mu := fun s => (s.1 + 1).toNat)
      (I := fun s => -1 ≤ s.1 ∧ s.1 < (b.types.length : Int) ∧ s.1 + s.2 ≤ 2000) (evCode (evC cprog) itLim c88_l0) ?_ ((k : Int), 0) st ⟨by simp only; omega, by simp only; omega, by simp only; omega⟩ h1 h2 z hz
    · obtain ⟨_, rfl, T, rfl, hT⟩ := L
      exact ⟨T, rfl, by simpa [ancI_nat] using hT⟩
    · intro ⟨t, n⟩ ⟨i1, i2, i3⟩ E hE
      simp only at i1 i2 i3 hE ⊢
      by_cases h0 : 0 ≤ t
      · obtain ⟨j, rfl⟩ : ∃ j : Nat, t = (j : Int) := ⟨t.toNat, by omega⟩
        obtain ⟨t, hj⟩ : ∃ t, b.types[j]? = some t := ⟨_, List.getElem?_eq_getElem (by omega)⟩
        have ha := aTy hj
        have hgt := tys_good ht j t (by omega) hj
        have hst := anc_step (tys_good ht) (by omega) hj
        have hw := wrapS (i := n) (n := 2001) (by omega) (by omega)
        simp only [c88_l0, hE, h0, ha, hs0, rTy, hw, evX, Int.reduceEq, Int.reduceLT, Int.reduceLE, Nat.reduceMul, Nat.reduceMod, evW, fn_eq, evR, Nat.reduceAdd, Nat.reduceLT, Nat.reduceLeDiff, reduceIte, Nat.reduceEqDiff, reduceCtorEq, argEnv, eq_self, if_true, if_false]
        repeat' ((first | rw [guardK_cases] | rw [condK_bool] | rw [guardD_cases]); split <;> simp only [c88_l0, hE, h0, ha, hs0, rTy, hw, evX, Int.reduceEq, Int.reduceLT, Int.reduceLE, Nat.reduceMul, Nat.reduceMod, evW, evR, Nat.reduceAdd, Nat.reduceLT, Nat.reduceLeDiff, reduceIte, Nat.reduceEqDiff, reduceCtorEq, argEnv, eq_self, if_true, if_false, *])
        refine q_next (t.parent, n + 1) (by rfl) rfl ⟨by omega, by simp only; omega, by simp only; omega⟩ (by simp only; omega) fun r h => ?_
        obtain ⟨T, h3, h⟩ := h
        refine ⟨T, h3, ?_⟩
        rw [ancI_nat, hst, h, List.length_append, List.length_singleton]
        simp only
        congr 3; omega
      · simp only [c88_l0, hE, h0, evX, Int.reduceEq, Int.reduceLT, Int.reduceLE, Nat.reduceMul, Nat.reduceMod, evW, fn_eq, evR, Nat.reduceAdd, Nat.reduceLT, Nat.reduceLeDiff, reduceIte, Nat.reduceEqDiff, reduceCtorEq, argEnv, eq_self, if_true, if_false]
        repeat' ((first | rw [guardK_cases] | rw [condK_bool] | rw [guardD_cases]); split <;> simp only [c88_l0, hE, h0, evX, Int.reduceEq, Int.reduceLT, Int.reduceLE, Nat.reduceMul, Nat.reduceMod, evW, evR, Nat.reduceAdd, Nat.reduceLT, Nat.reduceLeDiff, reduceIte, Nat.reduceEqDiff, reduceCtorEq, argEnv, eq_self, if_true, if_false, *])
        exact q_exit ⟨_, rfl, by rw [ancI_neg _ (by omega)]; simp [Ev.get]⟩
  obtain ⟨T, rfl, hT⟩ := key (H ++ [bBase b]) (.mk (by simp)) _ (by rfl) (by simp [bBase]) z hz
  simp only [hT, evX, Int.reduceEq, Int.reduceLT, Int.reduceLE, Nat.reduceMul, Nat.reduceMod, evW, fn_eq, evR, Nat.reduceAdd, Nat.reduceLT, Nat.reduceLeDiff, reduceIte, Nat.reduceEqDiff, reduceCtorEq, argEnv, eq_self, if_true, if_false]
  repeat' ((first | rw [guardK_cases] | rw [condK_bool] | rw [guardD_cases]); split <;> simp only [hT, evX, Int.reduceEq, Int.reduceLT, Int.reduceLE, Nat.reduceMul, Nat.reduceMod, evW, evR, Nat.reduceAdd, Nat.reduceLT, Nat.reduceLeDiff, reduceIte, Nat.reduceEqDiff, reduceCtorEq, argEnv, eq_self, if_true, if_false, *])
end Go.Proofs.Ytbchmbddcdionaa.Code

/- plain: ends of subtrees, of the program and of the document. -/
set_option linter.unusedSimpArgs false
set_option linter.unusedVariables false
namespace Go.Proofs.Ytbchmbddcdionaa.Code
open Go.Proofs.Ytbchmbddcdionaa.Ev

theorem anc_len8 {b : Base} {f : List Item} (h : Right b f) {k : Nat} (hk : k < b.types.length) : (anc b.types k).length ≤ 5 ∧ b.types.length ≤ 8 := by
  obtain ⟨t, ht⟩ : ∃ t, b.types[k]? = some t := ⟨_, List.getElem?_eq_getElem hk⟩
  have h1 := tell_true.1 h.tys k t ht
  simp only [tyAt, Bool.and_eq_true, decide_eq_true_eq] at h1
  have h2 := h.valid
  simp only [validB, areTys, Bool.and_eq_true, decide_eq_true_eq] at h2
  omega
theorem f63 (b : Base) (f : List Item) (hr : Right b f) (i : Nat) (hi : i < f.length) (H : Heap) : cal (evC cprog) false 63 [eBase b, eItems f, .int .i64 (i : Int)] H = some (.int .i64 (endOf b.types f i : Int), H) := by
  rw [cal_of at63]
  obtain ⟨x, k, t, hx, hk, hkl, ht, _⟩ := hr.item hi
  have ha := aItem hx
  have h8 := anc_len8 hr hkl
  have h67 := f88 b hr.tys k hkl (by omega)
  rw [← hk] at h67
  simp only [eBase] at h67
  have hl := hr.len
  have hlen := (sItems [] f).len
  simp only [List.length_map] at hlen
  have hw := wrapS (i := i) (n := 300) (by omega) (by omega)
  have hd : (anc b.types k).length = (pth b.types f i).length := by rw [pth_len hr i i (Nat.le_refl _) hi, typ_at hx, hk, Int.toNat_natCast]
  rw [hd] at h67
  simp only [c63, eBase, ha, rItem, h67, hw, evX, Int.reduceEq, Int.reduceLT, Int.reduceLE, Nat.reduceMul, Nat.reduceMod, evW, fn_eq, evR, Nat.reduceAdd, Nat.reduceLT, Nat.reduceLeDiff, reduceIte, Nat.reduceEqDiff, reduceCtorEq, argEnv, eq_self, if_true, if_false]
  repeat' ((first | rw [guardK_cases] | rw [condK_bool] | rw [guardD_cases]); split <;> simp only [c63, eBase, ha, rItem, h67, hw, evX, Int.reduceEq, Int.reduceLT, Int.reduceLE, Nat.reduceMul, Nat.reduceMod, evW, evR, Nat.reduceAdd, Nat.reduceLT, Nat.reduceLeDiff, reduceIte, Nat.reduceEqDiff, reduceCtorEq, argEnv, eq_self, if_true, if_false, *])
  generalize hz : itLim _ _ = z
  have key : ∀ H' : Heap, Sits H' H.length (bBase b) → ∀ st : St, keepEnv st.1 [1, 2, 3, 7] = [(1, eItems f), (2, .int .i64 ((i + 1 : Nat) : Int)), (3, .ptr H.length 0 4 0 0), (7, .int .i64 ((pth b.types f i).length : Int))] → st.2 = H' → ∀ z, itLim (evCode (evC cprog) itLim c63_l0) st = z →
      ∃ T, z = some (.exit 0, T, H') ∧ get T 2 = some (.int .i64 (endOf b.types f i : Int)) := by
    intro H' hs st h1 h2 z hz
    simp only [bBase, Sits] at hs
    have hs0 := hs []
    simp only [List.append_nil] at hs0
    have L := loop_rule (σ := Nat) (m := [1, 2, 3, 7]) (env := fun k => [(1, eItems f), (2, .int .i64 (k : Int)), (3, .ptr H.length 0 4 0 0), (7, .int .i64 ((pth b.types f i).length : Int))]) (hp := fun _ => H')
      (P := fun _ r => ∃ T, r = (.exit 0, T, H') ∧ get T 2 = some (.int .i64 (endOf b.types f i : Int))) (mu := fun k => f.length - k)
      (I := fun k => i < k ∧ k ≤ f.length ∧ ∀ j : Nat, i < j → j < k → (i : Int) ∈ pth b.types f j) (evCode (evC cprog) itLim c63_l0) ?_ (i + 1) st ⟨by omega, by omega, fun j h1 h2 => by omega⟩ h1 h2 z hz
    · obtain ⟨_, rfl, T, rfl, hT⟩ := L
      exact ⟨T, rfl, hT⟩
    · intro k ⟨i1, i2, i3⟩ E hE
      by_cases hkl : k < f.length
      · have hk1 : (k : Int) < (f.length : Int) := by omega
        obtain ⟨y, c, u, hy, hc, hcl, hu, _⟩ := hr.item hkl
        have hay := aItem hy
        have h67' := f88 b hr.tys c hcl (by omega)
        rw [← hc] at h67'
        simp only [eBase] at h67'
        have hd' : (anc b.types c).length = (pth b.types f k).length := by rw [pth_len hr k k (Nat.le_refl _) hkl, typ_at hy, hc, Int.toNat_natCast]
        rw [hd'] at h67'
        have hwk := wrapS (i := k) (n := 300) (by omega) (by omega)
        have hiff := below_len hr i1 hkl (IsEnd.way i3 i1 (Nat.le_refl _))
        by_cases hm : (i : Int) ∈ pth b.types f k
        · have hlt : ((pth b.types f i).length : Int) < ((pth b.types f k).length : Int) := by have := hiff.1 hm; omega
          simp only [c63_l0, hE, hk1, hlen, hay, hs0, rItem, h67', hlt, hwk, evX, Int.reduceEq, Int.reduceLT, Int.reduceLE, Nat.reduceMul, Nat.reduceMod, evW, fn_eq, evR, Nat.reduceAdd, Nat.reduceLT, Nat.reduceLeDiff, reduceIte, Nat.reduceEqDiff, reduceCtorEq, argEnv, eq_self, if_true, if_false]
          repeat' ((first | rw [guardK_cases] | rw [condK_bool] | rw [guardD_cases]); split <;> simp only [c63_l0, hE, hk1, hlen, hay, hs0, rItem, h67', hlt, hwk, evX, Int.reduceEq, Int.reduceLT, Int.reduceLE, Nat.reduceMul, Nat.reduceMod, evW, evR, Nat.reduceAdd, Nat.reduceLT, Nat.reduceLeDiff, reduceIte, Nat.reduceEqDiff, reduceCtorEq, argEnv, eq_self, if_true, if_false, *])
          refine q_next (k + 1) (by rfl) rfl ⟨by omega, by omega, fun j h1 h2 => ?_⟩ (by omega) fun r h => h
          by_cases e : j = k
          · subst e; exact hm
          · exact i3 j h1 (by omega)
        · have hlt : ¬ ((pth b.types f i).length : Int) < ((pth b.types f k).length : Int) := fun h => hm (hiff.2 (by omega))
          simp only [c63_l0, hE, hk1, hlen, hay, hs0, rItem, h67', hlt, evX, Int.reduceEq, Int.reduceLT, Int.reduceLE, Nat.reduceMul, Nat.reduceMod, evW, fn_eq, evR, Nat.reduceAdd, Nat.reduceLT, Nat.reduceLeDiff, reduceIte, Nat.reduceEqDiff, reduceCtorEq, argEnv, eq_self, if_true, if_false]
          repeat' ((first | rw [guardK_cases] | rw [condK_bool] | rw [guardD_cases]); split <;> simp only [c63_l0, hE, hk1, hlen, hay, hs0, rItem, h67', hlt, evX, Int.reduceEq, Int.reduceLT, Int.reduceLE, Nat.reduceMul, Nat.reduceMod, evW, evR, Nat.reduceAdd, Nat.reduceLT, Nat.reduceLeDiff, reduceIte, Nat.reduceEqDiff, reduceCtorEq, argEnv, eq_self, if_true, if_false, *])
          refine q_exit ⟨_, rfl, ?_⟩
          rw [(endOf_is b.types f hi).uniq ⟨i1, i2, i3, fun _ => hm⟩]; rfl
      · have hk1 : ¬ (k : Int) < (f.length : Int) := by omega
        simp only [c63_l0, hE, hk1, hlen, evX, Int.reduceEq, Int.reduceLT, Int.reduceLE, Nat.reduceMul, Nat.reduceMod, evW, fn_eq, evR, Nat.reduceAdd, Nat.reduceLT, Nat.reduceLeDiff, reduceIte, Nat.reduceEqDiff, reduceCtorEq, argEnv, eq_self, if_true, if_false]
        repeat' ((first | rw [guardK_cases] | rw [condK_bool] | rw [guardD_cases]); split <;> simp only [c63_l0, hE, hk1, hlen, evX, Int.reduceEq, Int.reduceLT, Int.reduceLE, Nat.reduceMul, Nat.reduceMod, evW, evR, Nat.reduceAdd, Nat.reduceLT, Nat.reduceLeDiff, reduceIte, Nat.reduceEqDiff, reduceCtorEq, argEnv, eq_self, if_true, if_false, *])
        refine q_exit ⟨_, rfl, ?_⟩
        rw [(endOf_is b.types f hi).uniq ⟨i1, i2, i3, fun h => absurd h hkl⟩]; rfl
  obtain ⟨T, rfl, hT⟩ := key (H ++ [bBase b]) (.mk (by simp)) _ (by rfl) (by simp [bBase]) z hz
  simp only [hT, evX, Int.reduceEq, Int.reduceLT, Int.reduceLE, Nat.reduceMul, Nat.reduceMod, evW, fn_eq, evR, Nat.reduceAdd, Nat.reduceLT, Nat.reduceLeDiff, reduceIte, Nat.reduceEqDiff, reduceCtorEq, argEnv, eq_self, if_true, if_false]
  repeat' ((first | rw [guardK_cases] | rw [condK_bool] | rw [guardD_cases]); split <;> simp only [hT, evX, Int.reduceEq, Int.reduceLT, Int.reduceLE, Nat.reduceMul, Nat.reduceMod, evW, evR, Nat.reduceAdd, Nat.reduceLT, Nat.reduceLeDiff, reduceIte, Nat.reduceEqDiff, reduceCtorEq, argEnv, eq_self, if_true, if_false, *])
theorem f82r (b : Base) (f : List Item) (hr : Right b f) (i : Nat) (hi : i < f.length) (H : Heap) : cal (evC cprog) false 82 [eBase b, eItems f, .int .i64 (i : Int)] H = some (.int .i64 (par b.types f i), H) := by
  obtain ⟨x, k, t, hx, hk, hkl, ht, _⟩ := hr.item hi
  exact f82 b f i x hx k t hk ht (by have := hr.len; omega) H
theorem f93 (b : Base) (f : List Item) (hr : Right b f) (p k : Nat) (hk : k < f.length) (H : Heap) : cal (evC cprog) false 93 [eBase b, eItems f, .int .i64 (p : Int), .int .i64 (k : Int)] H = some (.bool (decide ((p : Int) ∈ pthI b.types f (par b.types f k))), H) := by
  rw [cal_of at93]
  have h64 := f82r b f hr k hk
  simp only [eBase] at h64
  have hb := par_lt b.types f k
  simp only [c93, eBase, h64, evX, Int.reduceEq, Int.reduceLT, Int.reduceLE, Nat.reduceMul, Nat.reduceMod, evW, fn_eq, evR, Nat.reduceAdd, Nat.reduceLT, Nat.reduceLeDiff, reduceIte, Nat.reduceEqDiff, reduceCtorEq, argEnv, eq_self, if_true, if_false]
  repeat' ((first | rw [guardK_cases] | rw [condK_bool] | rw [guardD_cases]); split <;> simp only [c93, eBase, h64, evX, Int.reduceEq, Int.reduceLT, Int.reduceLE, Nat.reduceMul, Nat.reduceMod, evW, evR, Nat.reduceAdd, Nat.reduceLT, Nat.reduceLeDiff, reduceIte, Nat.reduceEqDiff, reduceCtorEq, argEnv, eq_self, if_true, if_false, *])
  generalize hz : itLim _ _ = z
  have key : ∀ H' : Heap, Sits H' H.length (bBase b) → ∀ st : St, keepEnv st.1 [1, 2, 3, 4] = [(1, eItems f), (2, .int .i64 (p : Int)), (3, .int .i64 (par b.types f k)), (4, .ptr H.length 0 4 0 0)] → st.2 = H' → ∀ z, itLim (evCode (evC cprog) itLim c93_l0) st = z →
      ∃ c T, z = some (c, T, H') ∧ (((p : Int) ∈ pthI b.types f (par b.types f k) ∧ c = .ret ∧ get T 8 = some (.bool true)) ∨ ((p : Int) ∉ pthI b.types f (par b.types f k) ∧ c = .exit 0)) := by
    intro H' hs st h1 h2 z hz
    simp only [bBase, Sits] at hs
    have hs0 := hs []
    simp only [List.append_nil] at hs0
    have L := loop_rule (σ := Int) (m := [1, 2, 3, 4]) (env := fun k => [(1, eItems f), (2, .int .i64 (p : Int)), (3, .int .i64 k), (4, .ptr H.length 0 4 0 0)]) (hp := fun _ => H')
      (P := fun k r => ∃ c T, r = (c, T, H') ∧ (((p : Int) ∈ pthI b.types f k ∧ c = .ret ∧ get T 8 = some (.bool true)) ∨ ((p : Int) ∉ pthI b.types f k ∧ c = .exit 0))) (mu := fun k => (k + 1).toNat)
      (I := fun k => -1 ≤ k ∧ k < (f.length : Int)) (evCode (evC cprog) itLim c93_l0) ?_ (par b.types f k) st ⟨by omega, by omega⟩ h1 h2 z hz
    · obtain ⟨_, rfl, c, T, rfl, hT⟩ := L
      exact ⟨c, T, rfl, hT⟩
    · intro k ⟨i1, i2⟩ E hE
      by_cases h0 : 0 ≤ k
      · obtain ⟨j, rfl⟩ : ∃ j : Nat, k = (j : Int) := ⟨k.toNat, by omega⟩
        by_cases e : j = p
        · subst e
          simp only [c93_l0, hE, h0, evX, Int.reduceEq, Int.reduceLT, Int.reduceLE, Nat.reduceMul, Nat.reduceMod, evW, fn_eq, evR, Nat.reduceAdd, Nat.reduceLT, Nat.reduceLeDiff, reduceIte, Nat.reduceEqDiff, reduceCtorEq, argEnv, eq_self, if_true, if_false]
          repeat' ((first | rw [guardK_cases] | rw [condK_bool] | rw [guardD_cases]); split <;> simp only [c93_l0, hE, h0, evX, Int.reduceEq, Int.reduceLT, Int.reduceLE, Nat.reduceMul, Nat.reduceMod, evW, evR, Nat.reduceAdd, Nat.reduceLT, Nat.reduceLeDiff, reduceIte, Nat.reduceEqDiff, reduceCtorEq, argEnv, eq_self, if_true, if_false, *])
          exact q_ret ⟨_, _, rfl, .inl ⟨by rw [pthI_nat]; exact pth_self _ _ _, rfl, by rfl⟩⟩
        · have e' : ¬ (j : Int) = (p : Int) := by omega
          have h64 := f82r b f hr j (by omega)
          simp only [eBase] at h64
          have hb := par_lt b.types f j
          simp only [c93_l0, hE, h0, e', hs0, h64, evX, Int.reduceEq, Int.reduceLT, Int.reduceLE, Nat.reduceMul, Nat.reduceMod, evW, fn_eq, evR, Nat.reduceAdd, Nat.reduceLT, Nat.reduceLeDiff, reduceIte, Nat.reduceEqDiff, reduceCtorEq, argEnv, eq_self, if_true, if_false]
          repeat' ((first | rw [guardK_cases] | rw [condK_bool] | rw [guardD_cases]); split <;> simp only [c93_l0, hE, h0, e', hs0, h64, evX, Int.reduceEq, Int.reduceLT, Int.reduceLE, Nat.reduceMul, Nat.reduceMod, evW, evR, Nat.reduceAdd, Nat.reduceLT, Nat.reduceLeDiff, reduceIte, Nat.reduceEqDiff, reduceCtorEq, argEnv, eq_self, if_true, if_false, *])
          refine q_next (par b.types f j) (by rfl) rfl (by omega) (by omega) fun r h => ?_
          obtain ⟨c, T, h3, h⟩ := h
          refine ⟨c, T, h3, ?_⟩
          rw [pthI_nat, pth_eq _ _ (by omega)]
          have e2 : ¬ (p : Int) = (j : Int) := by omega
          simpa [e2] using h
      · simp only [c93_l0, hE, h0, evX, Int.reduceEq, Int.reduceLT, Int.reduceLE, Nat.reduceMul, Nat.reduceMod, evW, fn_eq, evR, Nat.reduceAdd, Nat.reduceLT, Nat.reduceLeDiff, reduceIte, Nat.reduceEqDiff, reduceCtorEq, argEnv, eq_self, if_true, if_false]
        repeat' ((first | rw [guardK_cases] | rw [condK_bool] | rw [guardD_cases]); split <;> simp only [c93_l0, hE, h0, evX, Int.reduceEq, Int.reduceLT, Int.reduceLE, Nat.reduceMul, Nat.reduceMod, evW, evR, Nat.reduceAdd, Nat.reduceLT, Nat.reduceLeDiff, reduceIte, Nat.reduceEqDiff, reduceCtorEq, argEnv, eq_self, if_true, if_false, *])
        exact q_exit ⟨_, _, rfl, .inr ⟨by rw [pthI_neg _ _ (by omega)]; simp, rfl⟩⟩
  obtain ⟨c, T, rfl, hT⟩ := key (H ++ [bBase b]) (.mk (by simp)) _ (by rfl) (by simp [bBase]) z hz
  rcases hT with ⟨h, rfl, hT⟩ | ⟨h, rfl⟩
  · simp only [hT, h, evX, Int.reduceEq, Int.reduceLT, Int.reduceLE, Nat.reduceMul, Nat.reduceMod, evW, fn_eq, evR, Nat.reduceAdd, Nat.reduceLT, Nat.reduceLeDiff, reduceIte, Nat.reduceEqDiff, reduceCtorEq, argEnv, eq_self, if_true, if_false]
    repeat' ((first | rw [guardK_cases] | rw [condK_bool] | rw [guardD_cases]); split <;> simp only [hT, h, evX, Int.reduceEq, Int.reduceLT, Int.reduceLE, Nat.reduceMul, Nat.reduceMod, evW, evR, Nat.reduceAdd, Nat.reduceLT, Nat.reduceLeDiff, reduceIte, Nat.reduceEqDiff, reduceCtorEq, argEnv, eq_self, if_true, if_false, *])
  · simp only [h, evX, Int.reduceEq, Int.reduceLT, Int.reduceLE, Nat.reduceMul, Nat.reduceMod, evW, fn_eq, evR, Nat.reduceAdd, Nat.reduceLT, Nat.reduceLeDiff, reduceIte, Nat.reduceEqDiff, reduceCtorEq, argEnv, eq_self, if_true, if_false]
    repeat' ((first | rw [guardK_cases] | rw [condK_bool] | rw [guardD_cases]); split <;> simp only [h, evX, Int.reduceEq, Int.reduceLT, Int.reduceLE, Nat.reduceMul, Nat.reduceMod, evW, evR, Nat.reduceAdd, Nat.reduceLT, Nat.reduceLeDiff, reduceIte, Nat.reduceEqDiff, reduceCtorEq, argEnv, eq_self, if_true, if_false, *])
theorem below_iff {b : Base} {f : List Item} {i k : Nat} (hik : i < k) (hk : k < f.length) : (i : Int) ∈ pthI b.types f (par b.types f k) ↔ (i : Int) ∈ pth b.types f k := by
  rw [pth_eq _ _ hk]
  have : ¬ (i : Int) = (k : Int) := by omega
  simp [this]
theorem f68 (b : Base) (f : List Item) (hr : Right b f) (i : Nat) (hi : i < f.length) (H : Heap) : cal (evC cprog) false 68 [eBase b, eItems f, .int .i64 (i : Int)] H = some (.int .i64 (endOf b.types f i : Int), H) := by
  rw [cal_of at68]
  have hl := hr.len
  have hlen := (sItems [] f).len
  simp only [List.length_map] at hlen
  have hw := wrapS (i := i) (n := 300) (by omega) (by omega)
  simp only [c68, eBase, hw, evX, Int.reduceEq, Int.reduceLT, Int.reduceLE, Nat.reduceMul, Nat.reduceMod, evW, fn_eq, evR, Nat.reduceAdd, Nat.reduceLT, Nat.reduceLeDiff, reduceIte, Nat.reduceEqDiff, reduceCtorEq, argEnv, eq_self, if_true, if_false]
  repeat' ((first | rw [guardK_cases] | rw [condK_bool] | rw [guardD_cases]); split <;> simp only [c68, eBase, hw, evX, Int.reduceEq, Int.reduceLT, Int.reduceLE, Nat.reduceMul, Nat.reduceMod, evW, evR, Nat.reduceAdd, Nat.reduceLT, Nat.reduceLeDiff, reduceIte, Nat.reduceEqDiff, reduceCtorEq, argEnv, eq_self, if_true, if_false, *])
  generalize hz : itLim _ _ = z
  have key : ∀ H' : Heap, Sits H' H.length (bBase b) → ∀ st : St, keepEnv st.1 [1, 2, 3, 7] = [(1, eItems f), (2, .int .i64 (i : Int)), (3, .ptr H.length 0 4 0 0), (7, .int .i64 ((i + 1 : Nat) : Int))] → st.2 = H' → ∀ z, itLim (evCode (evC cprog) itLim c68_l0) st = z →
      ∃ T, z = some (.exit 0, T, H') ∧ get T 7 = some (.int .i64 (endOf b.types f i : Int)) := by
    intro H' hs st h1 h2 z hz
    simp only [bBase, Sits] at hs
    have hs0 := hs []
    simp only [List.append_nil] at hs0
    have L := loop_rule (σ := Nat) (m := [1, 2, 3, 7]) (env := fun k => [(1, eItems f), (2, .int .i64 (i : Int)), (3, .ptr H.length 0 4 0 0), (7, .int .i64 (k : Int))]) (hp := fun _ => H')
      (P := fun _ r => ∃ T, r = (.exit 0, T, H') ∧ get T 7 = some (.int .i64 (endOf b.types f i : Int))) (mu := fun k => f.length - k)
      (I := fun k => i < k ∧ k ≤ f.length ∧ ∀ j : Nat, i < j → j < k → (i : Int) ∈ pth b.types f j) (evCode (evC cprog) itLim c68_l0) ?_ (i + 1) st ⟨by omega, by omega, fun j h1 h2 => by omega⟩ h1 h2 z hz
    · obtain ⟨_, rfl, T, rfl, hT⟩ := L
      exact ⟨T, rfl, hT⟩
    · intro k ⟨i1, i2, i3⟩ E hE
      by_cases hkl : k < f.length
      · have hk1 : (k : Int) < (f.length : Int) := by omega
        have h68 := f93 b f hr i k hkl
        simp only [eBase] at h68
        have hwk := wrapS (i := k) (n := 300) (by omega) (by omega)
        have hiff := below_iff (b := b) i1 hkl
        by_cases hm : (i : Int) ∈ pth b.types f k
        · rw [decide_eq_true (hiff.2 hm)] at h68
          simp only [c68_l0, hE, hk1, hlen, hs0, h68, hwk, evX, Int.reduceEq, Int.reduceLT, Int.reduceLE, Nat.reduceMul, Nat.reduceMod, evW, fn_eq, evR, Nat.reduceAdd, Nat.reduceLT, Nat.reduceLeDiff, reduceIte, Nat.reduceEqDiff, reduceCtorEq, argEnv, eq_self, if_true, if_false]
          repeat' ((first | rw [guardK_cases] | rw [condK_bool] | rw [guardD_cases]); split <;> simp only [c68_l0, hE, hk1, hlen, hs0, h68, hwk, evX, Int.reduceEq, Int.reduceLT, Int.reduceLE, Nat.reduceMul, Nat.reduceMod, evW, evR, Nat.reduceAdd, Nat.reduceLT, Nat.reduceLeDiff, reduceIte, Nat.reduceEqDiff, reduceCtorEq, argEnv, eq_self, if_true, if_false, *])
          refine q_next (k + 1) (by rfl) rfl ⟨by omega, by omega, fun j h1 h2 => ?_⟩ (by omega) fun r h => h
          by_cases e : j = k
          · subst e; exact hm
          · exact i3 j h1 (by omega)
        · rw [decide_eq_false (fun h => hm (hiff.1 h))] at h68
          simp only [c68_l0, hE, hk1, hlen, hs0, h68, evX, Int.reduceEq, Int.reduceLT, Int.reduceLE, Nat.reduceMul, Nat.reduceMod, evW, fn_eq, evR, Nat.reduceAdd, Nat.reduceLT, Nat.reduceLeDiff, reduceIte, Nat.reduceEqDiff, reduceCtorEq, argEnv, eq_self, if_true, if_false]
          repeat' ((first | rw [guardK_cases] | rw [condK_bool] | rw [guardD_cases]); split <;> simp only [c68_l0, hE, hk1, hlen, hs0, h68, evX, Int.reduceEq, Int.reduceLT, Int.reduceLE, Nat.reduceMul, Nat.reduceMod, evW, evR, Nat.reduceAdd, Nat.reduceLT, Nat.reduceLeDiff, reduceIte, Nat.reduceEqDiff, reduceCtorEq, argEnv, eq_self, if_true, if_false, *])
          refine q_exit ⟨_, rfl, ?_⟩
          rw [(endOf_is b.types f hi).uniq ⟨i1, i2, i3, fun _ => hm⟩]; rfl
      · have hk1 : ¬ (k : Int) < (f.length : Int) := by omega
        simp only [c68_l0, hE, hk1, hlen, evX, Int.reduceEq, Int.reduceLT, Int.reduceLE, Nat.reduceMul, Nat.reduceMod, evW, fn_eq, evR, Nat.reduceAdd, Nat.reduceLT, Nat.reduceLeDiff, reduceIte, Nat.reduceEqDiff, reduceCtorEq, argEnv, eq_self, if_true, if_false]
        repeat' ((first | rw [guardK_cases] | rw [condK_bool] | rw [guardD_cases]); split <;> simp only [c68_l0, hE, hk1, hlen, evX, Int.reduceEq, Int.reduceLT, Int.reduceLE, Nat.reduceMul, Nat.reduceMod, evW, evR, Nat.reduceAdd, Nat.reduceLT, Nat.reduceLeDiff, reduceIte, Nat.reduceEqDiff, reduceCtorEq, argEnv, eq_self, if_true, if_false, *])
        refine q_exit ⟨_, rfl, ?_⟩
        rw [(endOf_is b.types f hi).uniq ⟨i1, i2, i3, fun h => absurd h hkl⟩]; rfl
  obtain ⟨T, rfl, hT⟩ := key (H ++ [bBase b]) (.mk (by simp)) _ (by rfl) (by simp [bBase]) z hz
  simp only [hT, evX, Int.reduceEq, Int.reduceLT, Int.reduceLE, Nat.reduceMul, Nat.reduceMod, evW, fn_eq, evR, Nat.reduceAdd, Nat.reduceLT, Nat.reduceLeDiff, reduceIte, Nat.reduceEqDiff, reduceCtorEq, argEnv, eq_self, if_true, if_false]
  repeat' ((first | rw [guardK_cases] | rw [condK_bool] | rw [guardD_cases]); split <;> simp only [hT, evX, Int.reduceEq, Int.reduceLT, Int.reduceLE, Nat.reduceMul, Nat.reduceMod, evW, evR, Nat.reduceAdd, Nat.reduceLT, Nat.reduceLeDiff, reduceIte, Nat.reduceEqDiff, reduceCtorEq, argEnv, eq_self, if_true, if_false, *])
end Go.Proofs.Ytbchmbddcdionaa.Code

/- plain: Delete, of the program and of the document. -/
set_option linter.unusedSimpArgs false
set_option linter.unusedVariables false
namespace Go.Proofs.Ytbchmbddcdionaa.Code
open Go.Proofs.Ytbchmbddcdionaa.Ev

theorem plain_items (l : List Item) : Plain (l.map rItem) := fz_rItem l
def eLE (l : List Item) (e : Int) : AV := .tup [eItems l, .int .i64 e]
theorem errF_zero {b : Base} {f : List Item} {l : List Int} (hb : b.Ok) (h : errF b f l = 0) : Right b f ∧ ∀ i ∈ l, 0 ≤ i ∧ i < (f.length : Int) := by
  unfold errF at h
  split at h
  · rename_i hv
    split at h
    · rename_i hf
      split at h
      · cases h
      · rename_i ho
        refine ⟨⟨hb, hv, hf⟩, fun i hi => ?_⟩
        have := List.any_eq_false.1 (Bool.eq_false_iff.2 ho) i hi
        simp only [outOf, Bool.or_eq_true, decide_eq_true_eq] at this
        omega
    · cases h
  · cases h
noncomputable def delR (b : Base) (f : List Item) (i : Int) : List Item := if errF b f [i] = 0 then f.take i.toNat ++ f.drop (endOf b.types f i.toNat) else []
theorem one_slat (H : Heap) (n : Int) (X : Heap) : SlAt (H ++ (X ++ [⟨0, true, 3, 1, [[.int .i64 n]]⟩])) 1 (.ref (H.length + X.length) 0 1 0 1) ([n].map rI) := by
  refine .ref (rows := [rI n]) (k := ⟨0, true, 3, 1, [[.int .i64 n]]⟩) ?_ fun i row hi => ?_
  · simp [curBlk, at_app]
  · cases i with
    | zero => simp at hi; subst hi; exact ⟨rfl, rfl⟩
    | succ i => simp at hi
theorem items_ne {f : List Item} {i : Nat} (h : i < f.length) : ∃ y ys, f = y :: ys := by
  cases f with
  | nil => simp at h
  | cons y ys => exact ⟨y, ys, rfl⟩
theorem f37 {f : List Item} {i : Nat} (h : i < f.length) (hl : f.length ≤ 1000) (H : Heap) : cal (evC cprog) false 37 [eItems f] H = some (.ref H.length 0 2 0 f.length, H ++ [⟨0, true, 44, 2, f.map rItem⟩]) := by
  obtain ⟨y, ys, rfl⟩ := items_ne h
  have := clone_lst (ty := 44) (sz := 2) (bytes := 24) at37 (rItem y) (ys.map rItem) H rfl (by simp [reach] at *; omega)
  rw [List.length_map] at this
  exact this
def zItem : List AV := [.int .i64 0, .str ⟨#[]⟩]
theorem f36 (b : Base) (hb : b.Ok) (f : List Item) (hfl : f.length < 9223372036854775807) (i : Int) (H : Heap) : cal (evC cprog) true 36 [eBase b, eItems f, .int .i64 i] H = some (eLE (delR b f i) (errF b f [i]), H) := by
  rw [cal_of at36]
  have h37 := f61 b hb f (.ref (H.length + 1) 0 1 0 1) rfl [i] (by simp) (H ++ [bBase b, bI i]) (one_slat H i [bBase b])
  simp only [eBase, bBase, bI] at h37
  by_cases he : errF b f [i] = 0
  · obtain ⟨hr, ho⟩ := errF_zero hb he
    obtain ⟨h0, h1⟩ := ho i (by simp)
    obtain ⟨i, rfl⟩ : ∃ j : Nat, i = (j : Int) := ⟨i.toNat, by omega⟩
    have hi : i < f.length := by omega
    have hl := hr.len
    have h39 := f37 hi (by omega)
    have h40 := f63 b f hr i hi
    simp only [eBase] at h40
    have hend := endOf_is b.types f hi
    have h38 := delete_ref (ty := 44) (sz := 2) (bytes := 24) (zero := zItem) at62 rfl (H.length + 2) 0 (f.map rItem) (fun r hr => by obtain ⟨_, _, rfl⟩ := List.mem_map.1 hr; rfl) (H ++ [bBase b, bI i, ⟨0, true, 44, 2, f.map rItem⟩]) (by simp) i (endOf b.types f i) hend.lt (by rw [List.length_map]; exact hend.le)
    simp only [bBase, bI, List.length_map] at h38
    rw [he] at h37
    have hd : delR b f (i : Int) = f.take i ++ f.drop (endOf b.types f i) := by unfold delR; rw [if_pos he, Int.toNat_natCast]
    rw [hd, he]
    simp only [c36, eBase, cells_eItems, isTup_eItems, h37, h39, h40, h38, evX, Int.reduceEq, Int.reduceLT, Int.reduceLE, Nat.reduceMul, Nat.reduceMod, evW, fn_eq, evR, Nat.reduceAdd, Nat.reduceLT, Nat.reduceLeDiff, reduceIte, Nat.reduceEqDiff, reduceCtorEq, argEnv, eq_self, if_true, if_false]
    repeat' ((first | rw [guardK_cases] | rw [condK_bool] | rw [guardD_cases]); split <;> simp only [c36, eBase, cells_eItems, isTup_eItems, h37, h39, h40, h38, evX, Int.reduceEq, Int.reduceLT, Int.reduceLE, Nat.reduceMul, Nat.reduceMod, evW, evR, Nat.reduceAdd, Nat.reduceLT, Nat.reduceLeDiff, reduceIte, Nat.reduceEqDiff, reduceCtorEq, argEnv, eq_self, if_true, if_false, *])
    have hle := hend.le
    have hlt := hend.lt
    have hrows : (f.map rItem).take i ++ (f.map rItem).drop (endOf b.types f i) = (f.take i ++ f.drop (endOf b.types f i)).map rItem := by simp
    have hlen : (f.take i ++ f.drop (endOf b.types f i)).length = i + (f.length - endOf b.types f i) := by simp; omega
    obtain ⟨ids, g1, g2⟩ := fz_blk (H := H ++ [bBase b, bI i, ⟨0, true, 44, 2, (f.map rItem).take i ++ ((f.map rItem).drop (endOf b.types f i) ++ List.replicate (endOf b.types f i - i) zItem)⟩]) (b := H.length + 2) (v := 0) (sz := 2) (len := i + (f.length - endOf b.types f i))
      (k := ⟨0, true, 44, 2, (f.map rItem).take i ++ ((f.map rItem).drop (endOf b.types f i) ++ List.replicate (endOf b.types f i - i) zItem)⟩) (by simp [curBlk]) (rows := (f.take i ++ f.drop (endOf b.types f i)).map rItem) (by
        rw [← List.append_assoc, hrows, List.take_left' (by rw [List.length_map]; exact hlen)]) (plain_items _) 6
    exact frz_two (ids := ids) g1 rfl (by simp) (fun x hx => by have := g2 x hx; omega) _ _
  · rw [show delR b f i = [] from if_neg he]
    simp only [c36, eBase, cells_eItems, isTup_eItems, h37, he, evX, Int.reduceEq, Int.reduceLT, Int.reduceLE, Nat.reduceMul, Nat.reduceMod, evW, fn_eq, evR, Nat.reduceAdd, Nat.reduceLT, Nat.reduceLeDiff, reduceIte, Nat.reduceEqDiff, reduceCtorEq, argEnv, eq_self, if_true, if_false]
    repeat' ((first | rw [guardK_cases] | rw [condK_bool] | rw [guardD_cases]); split <;> simp only [c36, eBase, cells_eItems, isTup_eItems, h37, he, evX, Int.reduceEq, Int.reduceLT, Int.reduceLE, Nat.reduceMul, Nat.reduceMod, evW, evR, Nat.reduceAdd, Nat.reduceLT, Nat.reduceLeDiff, reduceIte, Nat.reduceEqDiff, reduceCtorEq, argEnv, eq_self, if_true, if_false, *])
    exact frz_two (fz_nils _) rfl (by simp) (by simp) _ _
theorem f41 (b : Base) (hb : b.Ok) (f : List Item) (hfl : f.length < 9223372036854775807) (i : Int) (H : Heap) : cal (evC cprog) true 41 [eBase b, eItems f, .int .i64 i] H = some (eLE (delR b f i) (errF b f [i]), H) := by
  rw [cal_of at41]
  have h22 := f67 b hb f hfl (.ref (H.length + 1) 0 1 0 1) [i] (by simp) (H ++ [bBase b, bI i]) (one_slat H i [bBase b])
  simp only [eBase, bBase, bI] at h22
  by_cases he : errF b f [i] = 0
  · obtain ⟨hr, ho⟩ := errF_zero hb he
    obtain ⟨h0, h1⟩ := ho i (by simp)
    obtain ⟨i, rfl⟩ : ∃ j : Nat, i = (j : Int) := ⟨i.toNat, by omega⟩
    have hi : i < f.length := by omega
    have hl := hr.len
    have h41 := f68 b f hr i hi
    simp only [eBase] at h41
    have hend := endOf_is b.types f hi
    have hle := hend.le
    have hlt := hend.lt
    rw [he] at h22
    have hd : delR b f (i : Int) = f.take i ++ f.drop (endOf b.types f i) := by unfold delR; rw [if_pos he, Int.toNat_natCast]
    have hs1 := fun H => slc_take rItem (sz := 2) (fun _ => rfl) H f (i := i) (by omega)
    have hs2 := fun H => slc_drop rItem (sz := 2) (fun _ => rfl) H f (i := endOf b.types f i) hle
    change ∀ H, evSlc H 2 (eItems f) _ _ _ = _ at hs1
    change ∀ H, evSlc H 2 (eItems f) _ _ _ = _ at hs2
    have hit : ∀ l : List Item, ∀ r ∈ l.map rItem, r.length = 2 := fun l r hr => by obtain ⟨_, _, rfl⟩ := List.mem_map.1 hr; rfl
    obtain ⟨rv1, X1, a1, a2, a3⟩ := (Out.nil0 (H ++ [bBase b, bI i]).length 2 44 []).app (H ++ [bBase b, bI i]) rfl 24 (.lst ((f.take i).map rItem)) _ rfl (hit _) (by simp [reach]; omega)
    obtain ⟨rv2, X2, b1, b2, b3⟩ := a3.app (H ++ [bBase b, bI i]) rfl 24 (.lst ((f.drop (endOf b.types f i)).map rItem)) _ rfl (hit _) (by simp [reach]; omega)
    simp only [List.append_assoc, List.append_nil, List.cons_append, List.nil_append, bBase, bI] at a1 b1
    rw [hd, he]
    simp only [c41, eBase, h22, h41, hs1, hs2, a1, a2, b1, b2, evX, Int.reduceEq, Int.reduceLT, Int.reduceLE, Nat.reduceMul, Nat.reduceMod, evW, fn_eq, evR, Nat.reduceAdd, Nat.reduceLT, Nat.reduceLeDiff, reduceIte, Nat.reduceEqDiff, reduceCtorEq, argEnv, eq_self, if_true, if_false]
    repeat' ((first | rw [guardK_cases] | rw [condK_bool] | rw [guardD_cases]); split <;> simp only [c41, eBase, h22, h41, hs1, hs2, a1, a2, b1, b2, evX, Int.reduceEq, Int.reduceLT, Int.reduceLE, Nat.reduceMul, Nat.reduceMod, evW, evR, Nat.reduceAdd, Nat.reduceLT, Nat.reduceLeDiff, reduceIte, Nat.reduceEqDiff, reduceCtorEq, argEnv, eq_self, if_true, if_false, *])
    rw [List.nil_append, ← List.map_append] at b3
    obtain ⟨ids, g1, g2, g3⟩ := fz_out' b3 (H ++ [bBase b, bI i]) rfl (plain_items _)
    refine frz_two (ids := ids) (by simpa [bBase, bI] using g1) g3 (by simp) (fun x hx => by have := g2 x hx; simp at this; omega) _ _
  · rw [show delR b f i = [] from if_neg he]
    simp only [c41, eBase, h22, he, evX, Int.reduceEq, Int.reduceLT, Int.reduceLE, Nat.reduceMul, Nat.reduceMod, evW, fn_eq, evR, Nat.reduceAdd, Nat.reduceLT, Nat.reduceLeDiff, reduceIte, Nat.reduceEqDiff, reduceCtorEq, argEnv, eq_self, if_true, if_false]
    repeat' ((first | rw [guardK_cases] | rw [condK_bool] | rw [guardD_cases]); split <;> simp only [c41, eBase, h22, he, evX, Int.reduceEq, Int.reduceLT, Int.reduceLE, Nat.reduceMul, Nat.reduceMod, evW, evR, Nat.reduceAdd, Nat.reduceLT, Nat.reduceLeDiff, reduceIte, Nat.reduceEqDiff, reduceCtorEq, argEnv, eq_self, if_true, if_false, *])
    exact frz_two (fz_nils _) rfl (by simp) (by simp) _ _
end Go.Proofs.Ytbchmbddcdionaa.Code

/- plain: fits, keys and Replace, of the program and of the document. -/
set_option linter.unusedSimpArgs false
set_option linter.unusedVariables false
namespace Go.Proofs.Ytbchmbddcdionaa.Code
open Go.Proofs.Ytbchmbddcdionaa.Ev

def tyOut (ts : List Ty) (i : Int) : Bool := decide (i < 0) || decide ((ts.length : Int) ≤ i)
noncomputable def errB (b : Base) (l : List Int) : Int := if validB b = true then (if l.any (tyOut b.types) = true then 2 else 0) else 100
theorem f121 (b : Base) (t : Int) (H : Heap) : cal (evC cprog) false 121 [eBase b, .int .i64 t] H = some (.bool (!tyOut b.types t), H) := by
  rw [cal_of at121]
  have hlen := (sTys [] b.types).len
  simp only [List.length_map] at hlen
  by_cases h0 : 0 ≤ t <;> by_cases h1 : t < (b.types.length : Int)
  all_goals
    have h2 : tyOut b.types t = !(decide (0 ≤ t) && decide (t < (b.types.length : Int))) := by
      unfold tyOut
      by_cases g0 : t < 0 <;> by_cases g1 : (b.types.length : Int) ≤ t <;> simp only [g0, g1, h0, h1, decide_true, decide_false, Bool.or_true, Bool.true_or, Bool.or_false, Bool.and_true, Bool.and_false, Bool.not_true, Bool.not_false, Bool.and_self] <;> omega
    rw [h2]
    simp only [h0, h1, decide_true, decide_false, Bool.and_self, Bool.and_true, Bool.and_false, Bool.not_not]
  · simp only [c121, eBase, hlen, h0, h1, evX, Int.reduceEq, Int.reduceLT, Int.reduceLE, Nat.reduceMul, Nat.reduceMod, evW, fn_eq, evR, Nat.reduceAdd, Nat.reduceLT, Nat.reduceLeDiff, reduceIte, Nat.reduceEqDiff, reduceCtorEq, argEnv, eq_self, if_true, if_false]
    repeat' ((first | rw [guardK_cases] | rw [condK_bool] | rw [guardD_cases]); split <;> simp only [c121, eBase, hlen, h0, h1, evX, Int.reduceEq, Int.reduceLT, Int.reduceLE, Nat.reduceMul, Nat.reduceMod, evW, evR, Nat.reduceAdd, Nat.reduceLT, Nat.reduceLeDiff, reduceIte, Nat.reduceEqDiff, reduceCtorEq, argEnv, eq_self, if_true, if_false, *])
  · simp only [c121, eBase, hlen, h0, h1, evX, Int.reduceEq, Int.reduceLT, Int.reduceLE, Nat.reduceMul, Nat.reduceMod, evW, fn_eq, evR, Nat.reduceAdd, Nat.reduceLT, Nat.reduceLeDiff, reduceIte, Nat.reduceEqDiff, reduceCtorEq, argEnv, eq_self, if_true, if_false]
    repeat' ((first | rw [guardK_cases] | rw [condK_bool] | rw [guardD_cases]); split <;> simp only [c121, eBase, hlen, h0, h1, evX, Int.reduceEq, Int.reduceLT, Int.reduceLE, Nat.reduceMul, Nat.reduceMod, evW, evR, Nat.reduceAdd, Nat.reduceLT, Nat.reduceLeDiff, reduceIte, Nat.reduceEqDiff, reduceCtorEq, argEnv, eq_self, if_true, if_false, *])
  · simp only [c121, eBase, hlen, h0, h1, evX, Int.reduceEq, Int.reduceLT, Int.reduceLE, Nat.reduceMul, Nat.reduceMod, evW, fn_eq, evR, Nat.reduceAdd, Nat.reduceLT, Nat.reduceLeDiff, reduceIte, Nat.reduceEqDiff, reduceCtorEq, argEnv, eq_self, if_true, if_false]
    repeat' ((first | rw [guardK_cases] | rw [condK_bool] | rw [guardD_cases]); split <;> simp only [c121, eBase, hlen, h0, h1, evX, Int.reduceEq, Int.reduceLT, Int.reduceLE, Nat.reduceMul, Nat.reduceMod, evW, evR, Nat.reduceAdd, Nat.reduceLT, Nat.reduceLeDiff, reduceIte, Nat.reduceEqDiff, reduceCtorEq, argEnv, eq_self, if_true, if_false, *])
  · simp only [c121, eBase, hlen, h0, h1, evX, Int.reduceEq, Int.reduceLT, Int.reduceLE, Nat.reduceMul, Nat.reduceMod, evW, fn_eq, evR, Nat.reduceAdd, Nat.reduceLT, Nat.reduceLeDiff, reduceIte, Nat.reduceEqDiff, reduceCtorEq, argEnv, eq_self, if_true, if_false]
    repeat' ((first | rw [guardK_cases] | rw [condK_bool] | rw [guardD_cases]); split <;> simp only [c121, eBase, hlen, h0, h1, evX, Int.reduceEq, Int.reduceLT, Int.reduceLE, Nat.reduceMul, Nat.reduceMod, evW, evR, Nat.reduceAdd, Nat.reduceLT, Nat.reduceLeDiff, reduceIte, Nat.reduceEqDiff, reduceCtorEq, argEnv, eq_self, if_true, if_false, *])
theorem f117 (b : Base) (hb : b.Ok) (a : AV) (l : List Int) (hl : l.length < 9223372036854775807) (H : Heap) (ha : SlAt H 1 a (l.map rI)) : cal (evC cprog) false 117 [eBase b, a] H = some (.int .i64 (errB b l), H) := by
  rw [cal_of at117]
  have h1 := f44 b hb
  have h2 := f121 b
  simp only [eBase] at h1 h2
  have hlen' := ha.len
  simp only [List.length_map] at hlen'
  cases hv : validB b with
  | false =>
    simp only [c117, eBase, h1, hv, evX, Int.reduceEq, Int.reduceLT, Int.reduceLE, Nat.reduceMul, Nat.reduceMod, evW, fn_eq, evR, Nat.reduceAdd, Nat.reduceLT, Nat.reduceLeDiff, reduceIte, Nat.reduceEqDiff, reduceCtorEq, argEnv, eq_self, if_true, if_false]
    repeat' ((first | rw [guardK_cases] | rw [condK_bool] | rw [guardD_cases]); split <;> simp only [c117, eBase, h1, hv, evX, Int.reduceEq, Int.reduceLT, Int.reduceLE, Nat.reduceMul, Nat.reduceMod, evW, evR, Nat.reduceAdd, Nat.reduceLT, Nat.reduceLeDiff, reduceIte, Nat.reduceEqDiff, reduceCtorEq, argEnv, eq_self, if_true, if_false, *])
    simp [errB, hv]
  | true =>
    simp only [c117, eBase, h1, hv, evX, Int.reduceEq, Int.reduceLT, Int.reduceLE, Nat.reduceMul, Nat.reduceMod, evW, fn_eq, evR, Nat.reduceAdd, Nat.reduceLT, Nat.reduceLeDiff, reduceIte, Nat.reduceEqDiff, reduceCtorEq, argEnv, eq_self, if_true, if_false]
    repeat' ((first | rw [guardK_cases] | rw [condK_bool] | rw [guardD_cases]); split <;> simp only [c117, eBase, h1, hv, evX, Int.reduceEq, Int.reduceLT, Int.reduceLE, Nat.reduceMul, Nat.reduceMod, evW, evR, Nat.reduceAdd, Nat.reduceLT, Nat.reduceLeDiff, reduceIte, Nat.reduceEqDiff, reduceCtorEq, argEnv, eq_self, if_true, if_false, *])
    generalize hz : itLim _ _ = z
    have key : ∀ (H' : Heap) (b1 : Nat), Sits H' b1 (bBase b) → SlAt H' 1 a (l.map rI) → ∀ (st : St) (G : Heap), keepEnv st.1 [1, 2, 5] = [(1, a), (2, .ptr b1 0 4 0 0), (5, .int .i64 0)] → st.2 = H' ++ ([] ++ G) → ∀ z, itLim (evCode (evC cprog) itLim c117_l0) st = z →
        (l.all (fun i => !tyOut b.types i) = true ∧ Lv H' [] (fun c T => c = .exit 0) z) ∨ (l.all (fun i => !tyOut b.types i) = false ∧ Lv H' [] (fun c T => c = .ret ∧ get T 4 = some (.int .i64 2)) z) := by
      intro H' b1 hs ha st G hE hH z hz
      simp only [bBase, Sits] at hs
      exact all_rule l _ [1, 2, 5] (fun i => [(1, a), (2, .ptr b1 0 4 0 0), (5, .int .i64 (i : Int))]) H' [] (evCode (evC cprog) itLim c117_l0) _ _
        (fun i x hx E G hE => by
          have hlt : i < l.length := (List.getElem?_eq_some_iff.1 hx).1
          have hi : (i : Int) < (l.length : Int) := by omega
          obtain ⟨p, g1, g2⟩ := slI ha hx
          have hw := wrapS hlt hl
          cases ho : tyOut b.types x with
          | true =>
            simp only [c117_l0, hE, hi, hlen', hs, g1, g2, h2, ho, evX, Int.reduceEq, Int.reduceLT, Int.reduceLE, Nat.reduceMul, Nat.reduceMod, evW, fn_eq, evR, Nat.reduceAdd, Nat.reduceLT, Nat.reduceLeDiff, reduceIte, Nat.reduceEqDiff, reduceCtorEq, argEnv, eq_self, if_true, if_false]
            repeat' ((first | rw [guardK_cases] | rw [condK_bool] | rw [guardD_cases]); split <;> simp only [c117_l0, hE, hi, hlen', hs, g1, g2, h2, ho, evX, Int.reduceEq, Int.reduceLT, Int.reduceLE, Nat.reduceMul, Nat.reduceMod, evW, evR, Nat.reduceAdd, Nat.reduceLT, Nat.reduceLeDiff, reduceIte, Nat.reduceEqDiff, reduceCtorEq, argEnv, eq_self, if_true, if_false, *])
            exact Sc.ret rfl ⟨rfl, rfl⟩
          | false =>
            simp only [c117_l0, hE, hi, hlen', hs, g1, g2, h2, ho, hw, evX, Int.reduceEq, Int.reduceLT, Int.reduceLE, Nat.reduceMul, Nat.reduceMod, evW, fn_eq, evR, Nat.reduceAdd, Nat.reduceLT, Nat.reduceLeDiff, reduceIte, Nat.reduceEqDiff, reduceCtorEq, argEnv, eq_self, if_true, if_false]
            repeat' ((first | rw [guardK_cases] | rw [condK_bool] | rw [guardD_cases]); split <;> simp only [c117_l0, hE, hi, hlen', hs, g1, g2, h2, ho, hw, evX, Int.reduceEq, Int.reduceLT, Int.reduceLE, Nat.reduceMul, Nat.reduceMod, evW, evR, Nat.reduceAdd, Nat.reduceLT, Nat.reduceLeDiff, reduceIte, Nat.reduceEqDiff, reduceCtorEq, argEnv, eq_self, if_true, if_false, *])
            exact Sc.next rfl (by rfl))
        (fun E G hE => by
          simp only [c117_l0, hE, hlen', Int.lt_irrefl, evX, Int.reduceEq, Int.reduceLT, Int.reduceLE, Nat.reduceMul, Nat.reduceMod, evW, fn_eq, evR, Nat.reduceAdd, Nat.reduceLT, Nat.reduceLeDiff, reduceIte, Nat.reduceEqDiff, reduceCtorEq, argEnv, eq_self, if_true, if_false]
          repeat' ((first | rw [guardK_cases] | rw [condK_bool] | rw [guardD_cases]); split <;> simp only [c117_l0, hE, hlen', Int.lt_irrefl, evX, Int.reduceEq, Int.reduceLT, Int.reduceLE, Nat.reduceMul, Nat.reduceMod, evW, evR, Nat.reduceAdd, Nat.reduceLT, Nat.reduceLeDiff, reduceIte, Nat.reduceEqDiff, reduceCtorEq, argEnv, eq_self, if_true, if_false, *])
          exact .exit (K := []) rfl) st G hE hH z hz
    rcases key (H ++ [bBase b]) H.length (.mk (by simp)) (ha.app _) _ [] (by rfl) (by simp [bBase]) z hz with ⟨ha, c, T, G, rfl, _, rfl⟩ | ⟨ha, c, T, G, rfl, _, rfl, hT⟩
    · simp only [evX, Int.reduceEq, Int.reduceLT, Int.reduceLE, Nat.reduceMul, Nat.reduceMod, evW, fn_eq, evR, Nat.reduceAdd, Nat.reduceLT, Nat.reduceLeDiff, reduceIte, Nat.reduceEqDiff, reduceCtorEq, argEnv, eq_self, if_true, if_false]
      repeat' ((first | rw [guardK_cases] | rw [condK_bool] | rw [guardD_cases]); split <;> simp only [evX, Int.reduceEq, Int.reduceLT, Int.reduceLE, Nat.reduceMul, Nat.reduceMod, evW, evR, Nat.reduceAdd, Nat.reduceLT, Nat.reduceLeDiff, reduceIte, Nat.reduceEqDiff, reduceCtorEq, argEnv, eq_self, if_true, if_false, *])
      have : l.any (tyOut b.types) = false := by rw [List.any_eq_false]; intro x hx; have := List.all_eq_true.1 ha x hx; simpa using this
      simp [errB, hv, this]
    · simp only [hT, evX, Int.reduceEq, Int.reduceLT, Int.reduceLE, Nat.reduceMul, Nat.reduceMod, evW, fn_eq, evR, Nat.reduceAdd, Nat.reduceLT, Nat.reduceLeDiff, reduceIte, Nat.reduceEqDiff, reduceCtorEq, argEnv, eq_self, if_true, if_false]
      repeat' ((first | rw [guardK_cases] | rw [condK_bool] | rw [guardD_cases]); split <;> simp only [hT, evX, Int.reduceEq, Int.reduceLT, Int.reduceLE, Nat.reduceMul, Nat.reduceMod, evW, evR, Nat.reduceAdd, Nat.reduceLT, Nat.reduceLeDiff, reduceIte, Nat.reduceEqDiff, reduceCtorEq, argEnv, eq_self, if_true, if_false, *])
      have : l.any (tyOut b.types) = true := by
        obtain ⟨x, hx, h⟩ := List.all_eq_false.1 ha
        rw [List.any_eq_true]; exact ⟨x, hx, by simpa using h⟩
      simp [errB, hv, this]
theorem errB_ok {b : Base} (hv : validB b = true) {k : Nat} (hk : k < b.types.length) : errB b [(k : Int)] = 0 := by
  have h : tyOut b.types (k : Int) = false := by simp [tyOut]; omega
  unfold errB
  rw [if_pos hv, if_neg (by simp [h])]
theorem f101 (b : Base) (hb : b.Ok) (hv : validB b = true) (k : Nat) (t : Ty) (ht : b.types[k]? = some t) (d : ByteArray) (H : Heap) :
    cal (evC cprog) false 101 [eBase b, .int .i64 (k : Int), .str d] H = some (bEr (fits b.types ⟨(k : Int), d⟩) 0, H) := by
  rw [cal_of at101]
  have hk := (List.getElem?_eq_some_iff.1 ht).1
  have h82 := f117 b hb (.ref (H.length + 1) 0 1 0 1) [(k : Int)] (by simp) (H ++ [bBase b, bI (k : Int)]) (one_slat H (k : Int) [bBase b])
  rw [errB_ok hv hk] at h82
  simp only [eBase, bBase, bI] at h82
  have hat := aTy ht
  rw [fits_at (x := ⟨(k : Int), d⟩) rfl ht]
  simp only [c101, eBase, h82, hat, rTy, bEr, evX, Int.reduceEq, Int.reduceLT, Int.reduceLE, Nat.reduceMul, Nat.reduceMod, evW, fn_eq, evR, Nat.reduceAdd, Nat.reduceLT, Nat.reduceLeDiff, reduceIte, Nat.reduceEqDiff, reduceCtorEq, argEnv, eq_self, if_true, if_false]
  repeat' ((first | rw [guardK_cases] | rw [condK_bool] | rw [guardD_cases]); split <;> simp only [c101, eBase, h82, hat, rTy, bEr, evX, Int.reduceEq, Int.reduceLT, Int.reduceLE, Nat.reduceMul, Nat.reduceMod, evW, evR, Nat.reduceAdd, Nat.reduceLT, Nat.reduceLeDiff, reduceIte, Nat.reduceEqDiff, reduceCtorEq, argEnv, eq_self, if_true, if_false, *])
  all_goals simp_all [bEr]
theorem f78 (b : Base) (hb : b.Ok) (hv : validB b = true) (k : Nat) (t : Ty) (ht : b.types[k]? = some t) (hty : tyOk t = true) (d : ByteArray) (hf : fits b.types ⟨(k : Int), d⟩ = true) (hk : 0 ≤ t.key) (H : Heap) :
    cal (evC cprog) false 78 [eBase b, .int .i64 (k : Int), .str d, .int .i64 t.key] H = some (.tup [.str (keyOf t d), .bool true, .int .i64 0], H) := by
  rw [cal_of at78]
  have h69 := f101 b hb hv k t ht d
  rw [hf] at h69
  simp only [eBase, bEr] at h69
  have hat := aTy ht
  obtain ⟨m, f, h1, h2, h3, h4, h5, h6⟩ := key_in hty hk
  have haf := aFd h2
  have hml := (List.getElem?_eq_some_iff.1 h2).1
  have hfl := (sFds [] t.fields).len
  simp only [List.length_map] at hfl
  have hmin : t.min ≤ (d.size : Int) := by
    rw [fits_at (x := ⟨(k : Int), d⟩) rfl ht] at hf
    simp only [Bool.and_eq_true, decide_eq_true_eq] at hf
    exact hf.1
  have hw := wrapQ (a := f.at') (b := f.bytes) (by omega) (by omega) (by omega) (by omega)
  have k0 : ¬ (m : Int) < 0 := by omega
  have k1 : ¬ (t.fields.length : Int) ≤ (m : Int) := by omega
  have k2 : ¬ (d.size : Int) < f.at' + f.bytes := by omega
  have hsl := slcs_at d (a := f.at') (c := f.at' + f.bytes) h3 (by omega) (by omega)
  rw [keyOf_at h1 h2, h1]
  simp only [c78, eBase, h69, hat, hfl, rTy, rFd, k0, k1, k2, haf, hw, p_slcs, slcsK_some, asNat_int h3, asNat_int (show 0 ≤ f.at' + f.bytes by omega), hsl, evX, Int.reduceEq, Int.reduceLT, Int.reduceLE, Nat.reduceMul, Nat.reduceMod, evW, fn_eq, evR, Nat.reduceAdd, Nat.reduceLT, Nat.reduceLeDiff, reduceIte, Nat.reduceEqDiff, reduceCtorEq, argEnv, eq_self, if_true, if_false]
  repeat' ((first | rw [guardK_cases] | rw [condK_bool] | rw [guardD_cases]); split <;> simp only [c78, eBase, h69, hat, hfl, rTy, rFd, k0, k1, k2, haf, hw, p_slcs, slcsK_some, asNat_int h3, asNat_int (show 0 ≤ f.at' + f.bytes by omega), hsl, evX, Int.reduceEq, Int.reduceLT, Int.reduceLE, Nat.reduceMul, Nat.reduceMod, evW, evR, Nat.reduceAdd, Nat.reduceLT, Nat.reduceLeDiff, reduceIte, Nat.reduceEqDiff, reduceCtorEq, argEnv, eq_self, if_true, if_false, *])
theorem f79 (b : Base) (hb : b.Ok) (hv : validB b = true) (k : Nat) (t : Ty) (ht : b.types[k]? = some t) (hty : tyOk t = true) (d : ByteArray) (H : Heap) :
    cal (evC cprog) false 79 [eBase b, .int .i64 (k : Int), .str d] H = some (if fits b.types ⟨(k : Int), d⟩ = true then .tup [.str (keyOf t d), .int .i64 0] else .tup [.str ⟨#[]⟩, .int .i64 2], H) := by
  rw [cal_of at79]
  have h69 := f101 b hb hv k t ht d
  simp only [eBase, bEr] at h69
  have hat := aTy ht
  cases hf : fits b.types ⟨(k : Int), d⟩ with
  | false =>
    rw [hf] at h69
    simp only [c79, eBase, h69, evX, Int.reduceEq, Int.reduceLT, Int.reduceLE, Nat.reduceMul, Nat.reduceMod, evW, fn_eq, evR, Nat.reduceAdd, Nat.reduceLT, Nat.reduceLeDiff, reduceIte, Nat.reduceEqDiff, reduceCtorEq, argEnv, eq_self, if_true, if_false]
    repeat' ((first | rw [guardK_cases] | rw [condK_bool] | rw [guardD_cases]); split <;> simp only [c79, eBase, h69, evX, Int.reduceEq, Int.reduceLT, Int.reduceLE, Nat.reduceMul, Nat.reduceMod, evW, evR, Nat.reduceAdd, Nat.reduceLT, Nat.reduceLeDiff, reduceIte, Nat.reduceEqDiff, reduceCtorEq, argEnv, eq_self, if_true, if_false, *])
  | true =>
    rw [hf] at h69
    by_cases hk : t.key < 0
    · simp only [c79, eBase, h69, hat, rTy, hk, evX, Int.reduceEq, Int.reduceLT, Int.reduceLE, Nat.reduceMul, Nat.reduceMod, evW, fn_eq, evR, Nat.reduceAdd, Nat.reduceLT, Nat.reduceLeDiff, reduceIte, Nat.reduceEqDiff, reduceCtorEq, argEnv, eq_self, if_true, if_false]
      repeat' ((first | rw [guardK_cases] | rw [condK_bool] | rw [guardD_cases]); split <;> simp only [c79, eBase, h69, hat, rTy, hk, evX, Int.reduceEq, Int.reduceLT, Int.reduceLE, Nat.reduceMul, Nat.reduceMod, evW, evR, Nat.reduceAdd, Nat.reduceLT, Nat.reduceLeDiff, reduceIte, Nat.reduceEqDiff, reduceCtorEq, argEnv, eq_self, if_true, if_false, *])
      simp [keyOf, hk]
    · have h70 := f78 b hb hv k t ht hty d hf (by omega)
      simp only [eBase] at h70
      simp only [c79, eBase, h69, hat, rTy, hk, h70, evX, Int.reduceEq, Int.reduceLT, Int.reduceLE, Nat.reduceMul, Nat.reduceMod, evW, fn_eq, evR, Nat.reduceAdd, Nat.reduceLT, Nat.reduceLeDiff, reduceIte, Nat.reduceEqDiff, reduceCtorEq, argEnv, eq_self, if_true, if_false]
      repeat' ((first | rw [guardK_cases] | rw [condK_bool] | rw [guardD_cases]); split <;> simp only [c79, eBase, h69, hat, rTy, hk, h70, evX, Int.reduceEq, Int.reduceLT, Int.reduceLE, Nat.reduceMul, Nat.reduceMod, evW, evR, Nat.reduceAdd, Nat.reduceLT, Nat.reduceLeDiff, reduceIte, Nat.reduceEqDiff, reduceCtorEq, argEnv, eq_self, if_true, if_false, *])
end Go.Proofs.Ytbchmbddcdionaa.Code

/- plain: Replace, of the program and of the document. -/
set_option linter.unusedSimpArgs false
set_option linter.unusedVariables false
namespace Go.Proofs.Ytbchmbddcdionaa.Code
open Go.Proofs.Ytbchmbddcdionaa.Ev

end Go.Proofs.Ytbchmbddcdionaa.Code

/- logic: in the place of plain's law on changes. -/
set_option linter.unusedSimpArgs false
set_option linter.unusedVariables false
namespace Go.Proofs.Ytbchmbddcdionaa.Code
end Go.Proofs.Ytbchmbddcdionaa.Code

/- plain: which types are a part, and copies of types. -/
set_option linter.unusedSimpArgs false
set_option linter.unusedVariables false
namespace Go.Proofs.Ytbchmbddcdionaa.Code
open Go.Proofs.Ytbchmbddcdionaa.Ev

theorem f112 (b : Base) (t : Int) (b1 : Nat) (H : Heap) (h1 : Sits H b1 (bBase b)) : cal (evC cprog) false 112 [.int .i64 t, .ptr b1 0 4 0 0] H = some (.bool (tyOut b.types t), H) := by
  rw [cal_of at112]
  have hlen := (sTys [] b.types).len
  simp only [List.length_map] at hlen
  have g1 := h1.at
  simp only [bBase] at g1
  simp only [c112, hlen, g1, evX, Int.reduceEq, Int.reduceLT, Int.reduceLE, Nat.reduceMul, Nat.reduceMod, evW, fn_eq, evR, Nat.reduceAdd, Nat.reduceLT, Nat.reduceLeDiff, reduceIte, Nat.reduceEqDiff, reduceCtorEq, argEnv, eq_self, if_true, if_false]
  repeat' ((first | rw [guardK_cases] | rw [condK_bool] | rw [guardD_cases]); split <;> simp only [c112, hlen, g1, evX, Int.reduceEq, Int.reduceLT, Int.reduceLE, Nat.reduceMul, Nat.reduceMod, evW, evR, Nat.reduceAdd, Nat.reduceLT, Nat.reduceLeDiff, reduceIte, Nat.reduceEqDiff, reduceCtorEq, argEnv, eq_self, if_true, if_false, *])
  all_goals (simp_all [tyOut]; try omega)
end Go.Proofs.Ytbchmbddcdionaa.Code

/- logic: valid, held by the kit's walk. -/
set_option linter.unusedSimpArgs false
set_option linter.unusedVariables false
namespace Go.Proofs.Ytbchmbddcdionaa.Ev
open Go Go.RowKit

theorem agg_inv {S : Sta} {cs : List AV} {v : Value} (h : RepV S (.agg cs) v) : ∃ vs : List Value, v = .agg vs.toArray ∧ RepL S cs vs := by
  cases h with
  | one h => cases h with
    | s h => cases h with
      | frz h => cases h
    | agg _ vs h => exact ⟨vs, rfl, h⟩
theorem lst_inv {S : Sta} {l : List (List AV)} {v : Value} (h : RepS S (.lst l) v) : RepF S.M (.lst l) v := by
  cases h with
  | frz h => exact h
theorem int_inv {M : Mem} {k : IntKind} {n : Int} {v : Value} (h : RepF M (.int k n) v) : v = .int k n := by cases h; rfl
theorem str_inv {M : Mem} {s : ByteArray} {v : Value} (h : RepF M (.str s) v) : v = .string s := by cases h; rfl
theorem bool_inv {M : Mem} {b : Bool} {v : Value} (h : RepF M (.bool b) v) : v = .bool b := by cases h; rfl
theorem intS_inv {S : Sta} {k : IntKind} {n : Int} {v : Value} (h : RepS S (.int k n) v) : v = .int k n := by
  cases h with
  | frz h => exact int_inv h
theorem strS_inv {S : Sta} {s : ByteArray} {v : Value} (h : RepS S (.str s) v) : v = .string s := by
  cases h with
  | frz h => exact str_inv h
theorem slice_inv {M : Mem} {l : List (List AV)} {v : Value} (h : RepF M (.lst l) v) : ∃ a cap, v = .slice a l.length cap := by
  cases h with
  | lst0 a cap h => exact ⟨a, cap, rfl⟩
  | lst _ g off sz cap => exact ⟨_, cap, rfl⟩
theorem base_inv {S : Sta} {n : ByteArray} {k : Int} {ta sa : AV} {v : Value} (h : RepV S (.agg [.str n, .int .i64 k, ta, sa]) v) :
    ∃ x y, v = .agg #[.string n, .int .i64 k, x, y] ∧ RepS S ta x := by
  obtain ⟨vs, rfl, hl, hr⟩ := agg_inv h
  match vs, hl with
  | [v0, v1, v2, v3], _ =>
    have h0 := strS_inv (hr 0 _ _ rfl rfl)
    have h1 := intS_inv (hr 1 _ _ rfl rfl)
    exact ⟨v2, v3, by rw [h0, h1], hr 2 _ _ rfl rfl⟩
theorem link_inv {S : Sta} {c fl : Int} {r : ByteArray} {v : Value} (h : RepV S (.agg [.int .i64 c, .int .i64 fl, .str r]) v) :
    v = .agg #[.int .i64 c, .int .i64 fl, .string r] := by
  obtain ⟨vs, rfl, hl, hr⟩ := agg_inv h
  match vs, hl with
  | [v0, v1, v2], _ => rw [intS_inv (hr 0 _ _ rfl rfl), intS_inv (hr 1 _ _ rfl rfl), strS_inv (hr 2 _ _ rfl rfl)]
theorem ty_cells {M : Mem} {w : World} {g o : Nat} {nm : ByteArray} {a1 a2 a3 a5 : Int} {a6 a7 : Bool} {fs : AV}
    (hc : ∀ k x, [AV.str nm, .int .i64 a1, .int .i64 a2, .int .i64 a3, fs, .int .i64 a5, .bool a6, .bool a7][k]? = some x → ∃ u, w.cell? ⟨g, o + k, none⟩ = some u ∧ RepF M x u) :
    (w.cell? ⟨g, o, none⟩ = some (.string nm) ∧ w.cell? ⟨g, o + 1, none⟩ = some (.int .i64 a1) ∧ w.cell? ⟨g, o + 2, none⟩ = some (.int .i64 a2) ∧ w.cell? ⟨g, o + 3, none⟩ = some (.int .i64 a3)) ∧
    (w.cell? ⟨g, o + 5, none⟩ = some (.int .i64 a5) ∧ w.cell? ⟨g, o + 6, none⟩ = some (.bool a6) ∧ w.cell? ⟨g, o + 7, none⟩ = some (.bool a7)) ∧ ∃ y, w.cell? ⟨g, o + 4, none⟩ = some y ∧ RepF M fs y := by
  obtain ⟨u0, c0, r0⟩ := hc 0 _ rfl
  obtain ⟨u1, c1, r1⟩ := hc 1 _ rfl
  obtain ⟨u2, c2, r2⟩ := hc 2 _ rfl
  obtain ⟨u3, c3, r3⟩ := hc 3 _ rfl
  obtain ⟨u4, c4, r4⟩ := hc 4 _ rfl
  obtain ⟨u5, c5, r5⟩ := hc 5 _ rfl
  obtain ⟨u6, c6, r6⟩ := hc 6 _ rfl
  obtain ⟨u7, c7, r7⟩ := hc 7 _ rfl
  rw [str_inv r0] at c0; rw [int_inv r1] at c1; rw [int_inv r2] at c2; rw [int_inv r3] at c3; rw [int_inv r5] at c5; rw [bool_inv r6] at c6; rw [bool_inv r7] at c7
  exact ⟨⟨c0, c1, c2, c3⟩, ⟨c5, c6, c7⟩, u4, c4, r4⟩
theorem fd_cells {M : Mem} {w : World} {g o : Nat} {nm : ByteArray} {a1 a2 : Int}
    (hc : ∀ k x, [AV.str nm, .int .i64 a1, .int .i64 a2][k]? = some x → ∃ u, w.cell? ⟨g, o + k, none⟩ = some u ∧ RepF M x u) :
    w.cell? ⟨g, o, none⟩ = some (.string nm) ∧ w.cell? ⟨g, o + 1, none⟩ = some (.int .i64 a1) ∧ w.cell? ⟨g, o + 2, none⟩ = some (.int .i64 a2) := by
  obtain ⟨u0, c0, r0⟩ := hc 0 _ rfl
  obtain ⟨u1, c1, r1⟩ := hc 1 _ rfl
  obtain ⟨u2, c2, r2⟩ := hc 2 _ rfl
  rw [str_inv r0] at c0; rw [int_inv r1] at c1; rw [int_inv r2] at c2
  exact ⟨c0, c1, c2⟩
theorem calls43 {S : Sta} {w : World} {B : Nat} (hW : WRel S w B) {na nb r : ByteArray} {ka kb c fl : Int} {ta tb : AV} {b : Bool} {x y x' y' : Value} (hx : RepS S ta x) (hx' : RepS S tb x') (h : sem43 ta tb c fl r = some b) :
    Calls Try.prog 43 #[.agg #[.string na, .int .i64 ka, x, y], .agg #[.string nb, .int .i64 kb, x', y'], .agg #[.int .i64 c, .int .i64 fl, .string r]] w fun e w' => e = .returned (.bool b) ∧ Below w.heap.size w w' := by
  unfold sem43 at h
  split at h
  case h_2 => cases h
  rename_i l l'
  have hf := lst_inv hx
  have hf' := lst_inv hx'
  obtain ⟨a, ca, rfl⟩ := slice_inv hf
  obtain ⟨a', cb, rfl⟩ := slice_inv hf'
  split at h
  · cases h; rename_i hc
    exact Code.v43_low w na nb ka kb fl a a' y y' _ ca _ cb c r hc
  rename_i hc
  obtain ⟨c, rfl⟩ := Int.eq_ofNat_of_zero_le (a := c) (by omega)
  split at h
  · cases h; rename_i hn
    exact Code.v43_high w na nb ka kb fl a a' y y' _ ca _ cb c r hc hn
  rename_i hn
  split at h
  · cases h; rename_i hr
    simp only [not_or] at hr
    exact Code.v43_rule w na nb ka kb fl a a' y y' _ ca _ cb c r hc (by simpa using hn) (by simpa using hr.1) (by simpa using hr.2.1) (by simpa using hr.2.2)
  rename_i hr
  have hr : r = ⟨#[80]⟩ ∨ r = ⟨#[76]⟩ ∨ r = ⟨#[86]⟩ := by
    have := Classical.not_not.1 hr
    rcases this with e | e | e
    · exact .inl (data_ext (Array.toList_inj.1 (by rw [← toList_eq, e])))
    · exact .inr (.inl (data_ext (Array.toList_inj.1 (by rw [← toList_eq, e]))))
    · exact .inr (.inr (data_ext (Array.toList_inj.1 (by rw [← toList_eq, e]))))
  have hn := Classical.not_not.1 hn
  split at h
  case h_2 => cases h
  rename_i nm b1 mn b3 fs a5 a6 a7 nm' e1 e2 e3 rs key e6 e7 hj hj'
  obtain ⟨ga, oa, ca', e, hga, hca⟩ := RepF.row hW hf hj
  obtain ⟨gb, ob, cb', e', hgb, hcb⟩ := RepF.row hW hf' hj'
  cases e; cases e'
  obtain ⟨⟨ha0, ha1, ha2, ha3⟩, ⟨ha5, ha6, ha7⟩, u, ha4, hu⟩ := ty_cells hca
  obtain ⟨⟨hb0, hb1, hb2, hb3⟩, ⟨hb5, hb6, hb7⟩, u', hb4, hu'⟩ := ty_cells hcb
  have hm : (0 : Int) < (l'.length : Int) := by
    have := (List.getElem?_eq_some_iff.1 hj').1
    omega
  obtain ⟨xf, pc, rfl⟩ := slice_inv hu
  obtain ⟨xr, qc, rfl⟩ := slice_inv hu'
  simp only [List.length_cons, List.length_nil, Nat.zero_mul, Nat.add_zero, Int.toNat_natCast, Nat.zero_add, Nat.reduceAdd] at ha0 ha1 ha2 ha3 ha4 ha5 ha6 ha7 hb0 hb1 hb2 hb3 hb4 hb5 hb6 hb7
  split at h
  · cases h; rename_i hfl
    rcases hr with rfl | rfl | rfl
    · exact Code.v43_neg_p (w := w) (hc := hc) (hn := hn) (hm := hm) (ha0 := ha0) (ha1 := ha1) (ha2 := ha2) (ha3 := ha3) (ha4 := ha4) (ha5 := ha5) (ha6 := ha6) (ha7 := ha7) (hb0 := hb0) (hb1 := hb1) (hb2 := hb2) (hb3 := hb3) (hb4 := hb4) (hb5 := hb5) (hb6 := hb6) (hb7 := hb7) (hga := hga) (hgb := hgb) (hfl := hfl) (na := na) (nb := nb) (ka := ka) (kb := kb) (sa := y) (sb := y') (ca := ca) (cb := cb)
    · exact Code.v43_neg_l (w := w) (hc := hc) (hn := hn) (hm := hm) (ha0 := ha0) (ha1 := ha1) (ha2 := ha2) (ha3 := ha3) (ha4 := ha4) (ha5 := ha5) (ha6 := ha6) (ha7 := ha7) (hb0 := hb0) (hb1 := hb1) (hb2 := hb2) (hb3 := hb3) (hb4 := hb4) (hb5 := hb5) (hb6 := hb6) (hb7 := hb7) (hga := hga) (hgb := hgb) (hfl := hfl) (na := na) (nb := nb) (ka := ka) (kb := kb) (sa := y) (sb := y') (ca := ca) (cb := cb)
    · exact Code.v43_neg_v (w := w) (hc := hc) (hn := hn) (hm := hm) (ha0 := ha0) (ha1 := ha1) (ha2 := ha2) (ha3 := ha3) (ha4 := ha4) (ha5 := ha5) (ha6 := ha6) (ha7 := ha7) (hb0 := hb0) (hb1 := hb1) (hb2 := hb2) (hb3 := hb3) (hb4 := hb4) (hb5 := hb5) (hb6 := hb6) (hb7 := hb7) (hga := hga) (hgb := hgb) (hfl := hfl) (na := na) (nb := nb) (ka := ka) (kb := kb) (sa := y) (sb := y') (ca := ca) (cb := cb)
  rename_i hfl
  obtain ⟨fl, rfl⟩ := Int.eq_ofNat_of_zero_le (a := fl) (by omega)
  split at h
  · cases h; rename_i hfl
    rcases hr with rfl | rfl | rfl
    · exact Code.v43_far_p (w := w) (hc := hc) (hn := hn) (hm := hm) (ha0 := ha0) (ha1 := ha1) (ha2 := ha2) (ha3 := ha3) (ha4 := ha4) (ha5 := ha5) (ha6 := ha6) (ha7 := ha7) (hb0 := hb0) (hb1 := hb1) (hb2 := hb2) (hb3 := hb3) (hb4 := hb4) (hb5 := hb5) (hb6 := hb6) (hb7 := hb7) (hga := hga) (hgb := hgb) (hfl := hfl) (na := na) (nb := nb) (ka := ka) (kb := kb) (sa := y) (sb := y') (ca := ca) (cb := cb)
    · exact Code.v43_far_l (w := w) (hc := hc) (hn := hn) (hm := hm) (ha0 := ha0) (ha1 := ha1) (ha2 := ha2) (ha3 := ha3) (ha4 := ha4) (ha5 := ha5) (ha6 := ha6) (ha7 := ha7) (hb0 := hb0) (hb1 := hb1) (hb2 := hb2) (hb3 := hb3) (hb4 := hb4) (hb5 := hb5) (hb6 := hb6) (hb7 := hb7) (hga := hga) (hgb := hgb) (hfl := hfl) (na := na) (nb := nb) (ka := ka) (kb := kb) (sa := y) (sb := y') (ca := ca) (cb := cb)
    · exact Code.v43_far_v (w := w) (hc := hc) (hn := hn) (hm := hm) (ha0 := ha0) (ha1 := ha1) (ha2 := ha2) (ha3 := ha3) (ha4 := ha4) (ha5 := ha5) (ha6 := ha6) (ha7 := ha7) (hb0 := hb0) (hb1 := hb1) (hb2 := hb2) (hb3 := hb3) (hb4 := hb4) (hb5 := hb5) (hb6 := hb6) (hb7 := hb7) (hga := hga) (hgb := hgb) (hfl := hfl) (na := na) (nb := nb) (ka := ka) (kb := kb) (sa := y) (sb := y') (ca := ca) (cb := cb)
  rename_i hfl
  have hfl := Classical.not_not.1 hfl
  split at h
  · cases h
  rename_i hky
  obtain ⟨key, rfl⟩ := Int.eq_ofNat_of_zero_le (a := key) (by omega)
  split at h
  case h_2 => cases h
  rename_i fn fa fb rn ra rb hj2 hj3
  obtain ⟨gf, uf, pc', e, hgf, hcf⟩ := RepF.row hW hu hj2
  obtain ⟨gr, ur, qc', e', hgr, hcr⟩ := RepF.row hW hu' hj3
  cases e; cases e'
  obtain ⟨hf0, hf1, hf2⟩ := fd_cells hcf
  obtain ⟨hr0, hr1, hr2⟩ := fd_cells hcr
  have hky : (key : Int) < (rs.length : Int) := by
    have := (List.getElem?_eq_some_iff.1 hj3).1
    simp only [Int.toNat_natCast] at this
    omega
  simp only [List.length_cons, List.length_nil, Nat.zero_mul, Nat.add_zero, Int.toNat_natCast, Nat.zero_add, Nat.reduceAdd] at hf0 hf1 hf2 hr0 hr1 hr2
  have hs : IntKind.i64.wrap (fa + fb) = wrap64 (fa + fb) := IntWalk.i64_left _
  split at h
  · cases h; rename_i h2
    rcases hr with rfl | rfl | rfl
    · exact Code.v43_fit_p (w := w) (hc := hc) (hn := hn) (hm := hm) (ha0 := ha0) (ha1 := ha1) (ha2 := ha2) (ha3 := ha3) (ha4 := ha4) (ha5 := ha5) (ha6 := ha6) (ha7 := ha7) (hb0 := hb0) (hb1 := hb1) (hb2 := hb2) (hb3 := hb3) (hb4 := hb4) (hb5 := hb5) (hb6 := hb6) (hb7 := hb7) (hga := hga) (hgb := hgb) (hf0 := hf0) (hf1 := hf1) (hf2 := hf2) (hr0 := hr0) (hr1 := hr1) (hr2 := hr2) (hgf := hgf) (hgr := hgr) (hfl := hfl) (hky := hky) (hs := hs) (hs2 := rfl) (h2 := h2) (na := na) (nb := nb) (ka := ka) (kb := kb) (sa := y) (sb := y') (ca := ca) (cb := cb)
    · exact Code.v43_fit_l (w := w) (hc := hc) (hn := hn) (hm := hm) (ha0 := ha0) (ha1 := ha1) (ha2 := ha2) (ha3 := ha3) (ha4 := ha4) (ha5 := ha5) (ha6 := ha6) (ha7 := ha7) (hb0 := hb0) (hb1 := hb1) (hb2 := hb2) (hb3 := hb3) (hb4 := hb4) (hb5 := hb5) (hb6 := hb6) (hb7 := hb7) (hga := hga) (hgb := hgb) (hf0 := hf0) (hf1 := hf1) (hf2 := hf2) (hr0 := hr0) (hr1 := hr1) (hr2 := hr2) (hgf := hgf) (hgr := hgr) (hfl := hfl) (hky := hky) (hs := hs) (hs2 := rfl) (h2 := h2) (na := na) (nb := nb) (ka := ka) (kb := kb) (sa := y) (sb := y') (ca := ca) (cb := cb)
    · exact Code.v43_fit_v (w := w) (hc := hc) (hn := hn) (hm := hm) (ha0 := ha0) (ha1 := ha1) (ha2 := ha2) (ha3 := ha3) (ha4 := ha4) (ha5 := ha5) (ha6 := ha6) (ha7 := ha7) (hb0 := hb0) (hb1 := hb1) (hb2 := hb2) (hb3 := hb3) (hb4 := hb4) (hb5 := hb5) (hb6 := hb6) (hb7 := hb7) (hga := hga) (hgb := hgb) (hf0 := hf0) (hf1 := hf1) (hf2 := hf2) (hr0 := hr0) (hr1 := hr1) (hr2 := hr2) (hgf := hgf) (hgr := hgr) (hfl := hfl) (hky := hky) (hs := hs) (hs2 := rfl) (h2 := h2) (na := na) (nb := nb) (ka := ka) (kb := kb) (sa := y) (sb := y') (ca := ca) (cb := cb)
  · cases h; rename_i h2
    rcases hr with rfl | rfl | rfl
    · exact Code.v43_not_p (w := w) (hc := hc) (hn := hn) (hm := hm) (ha0 := ha0) (ha1 := ha1) (ha2 := ha2) (ha3 := ha3) (ha4 := ha4) (ha5 := ha5) (ha6 := ha6) (ha7 := ha7) (hb0 := hb0) (hb1 := hb1) (hb2 := hb2) (hb3 := hb3) (hb4 := hb4) (hb5 := hb5) (hb6 := hb6) (hb7 := hb7) (hga := hga) (hgb := hgb) (hf0 := hf0) (hf1 := hf1) (hf2 := hf2) (hr0 := hr0) (hr1 := hr1) (hr2 := hr2) (hgf := hgf) (hgr := hgr) (hfl := hfl) (hky := hky) (hs := hs) (hs2 := rfl) (h2 := h2) (h3 := Int.not_le.1 h2) (h4 := decide_eq_false h2) (na := na) (nb := nb) (ka := ka) (kb := kb) (sa := y) (sb := y') (ca := ca) (cb := cb)
    · exact Code.v43_not_l (w := w) (hc := hc) (hn := hn) (hm := hm) (ha0 := ha0) (ha1 := ha1) (ha2 := ha2) (ha3 := ha3) (ha4 := ha4) (ha5 := ha5) (ha6 := ha6) (ha7 := ha7) (hb0 := hb0) (hb1 := hb1) (hb2 := hb2) (hb3 := hb3) (hb4 := hb4) (hb5 := hb5) (hb6 := hb6) (hb7 := hb7) (hga := hga) (hgb := hgb) (hf0 := hf0) (hf1 := hf1) (hf2 := hf2) (hr0 := hr0) (hr1 := hr1) (hr2 := hr2) (hgf := hgf) (hgr := hgr) (hfl := hfl) (hky := hky) (hs := hs) (hs2 := rfl) (h2 := h2) (h3 := Int.not_le.1 h2) (h4 := decide_eq_false h2) (na := na) (nb := nb) (ka := ka) (kb := kb) (sa := y) (sb := y') (ca := ca) (cb := cb)
    · exact Code.v43_not_v (w := w) (hc := hc) (hn := hn) (hm := hm) (ha0 := ha0) (ha1 := ha1) (ha2 := ha2) (ha3 := ha3) (ha4 := ha4) (ha5 := ha5) (ha6 := ha6) (ha7 := ha7) (hb0 := hb0) (hb1 := hb1) (hb2 := hb2) (hb3 := hb3) (hb4 := hb4) (hb5 := hb5) (hb6 := hb6) (hb7 := hb7) (hga := hga) (hgb := hgb) (hf0 := hf0) (hf1 := hf1) (hf2 := hf2) (hr0 := hr0) (hr1 := hr1) (hr2 := hr2) (hgf := hgf) (hgr := hgr) (hfl := hfl) (hky := hky) (hs := hs) (hs2 := rfl) (h2 := h2) (h3 := Int.not_le.1 h2) (h4 := decide_eq_false h2) (na := na) (nb := nb) (ka := ka) (kb := kb) (sa := y) (sb := y') (ca := ca) (cb := cb)
end Go.Proofs.Ytbchmbddcdionaa.Ev

/- logic: valid as a function held by a proof of its own. -/
set_option linter.unusedSimpArgs false
set_option linter.unusedVariables false
namespace Go.Proofs.Ytbchmbddcdionaa.Ev
open Go Go.RowKit

theorem user43 {c : CFn} (hb : c.body = .user p43) (hcl : c.closed = false) (hsp : c.split = false) (hres : c.res = [.t 0]) : UserOk Try.prog 43 c where
  fn := ⟨Try.f43, Try.func43, by kernel_rfl, by kernel_rfl⟩
  user := ⟨p43, hb⟩
  plain := ⟨hcl, hsp⟩
  res := ⟨1, by rw [hres]; rfl, by
    intro p hp args H q hq
    rw [hb] at hp; cases hp
    unfold p43 at hq
    split at hq
    · cases hs : sem43 _ _ _ _ _ with
      | none => rw [hs] at hq; cases hq
      | some b => rw [hs] at hq; cases hq; rfl
    · cases hq⟩
  ok := by
    intro p hp args H vs' H' h S w B vs hS hW hl hr
    rw [hb] at hp; cases hp
    unfold p43 at h
    split at h
    case h_2 => cases h
    cases hs : sem43 _ _ _ _ _ with
    | none => rw [hs] at h; cases h
    | some b =>
      rw [hs] at h; cases h
      match vs, hl with
      | [v0, v1, v2], _ =>
        obtain ⟨x, y, rfl, hx⟩ := base_inv (hr 0 _ _ rfl rfl)
        obtain ⟨x', y', rfl, hx'⟩ := base_inv (hr 1 _ _ rfl rfl)
        have h2 := link_inv (hr 2 _ _ rfl rfl)
        subst h2
        refine (calls43 hW hx hx' hs).mono ?_
        rintro e w' ⟨rfl, hB⟩
        exact ⟨_, S, rfl, hS, .one (.s (.frz (.bool b))), hW.same hB.size (fun g hg => hB.block g hg), Ext.refl S, .of hB hW.base⟩
end Go.Proofs.Ytbchmbddcdionaa.Ev

/- logic: isLink, held by the kit's walk. -/
set_option linter.unusedSimpArgs false
set_option linter.unusedVariables false
namespace Go.Proofs.Ytbchmbddcdionaa.Ev
open Go Go.RowKit

theorem calls45 {S : Sta} {w : World} {B : Nat} (hW : WRel S w B) {na nb r : ByteArray} {ka kb c fl : Int} {ta tb : AV} {b : Bool} {x y x' y' : Value} (hx : RepS S ta x) (hx' : RepS S tb x') (h : sem43 ta tb c fl r = some b) :
    Calls Try.prog 45 #[.agg #[.string na, .int .i64 ka, x, y], .agg #[.string nb, .int .i64 kb, x', y'], .agg #[.int .i64 c, .int .i64 fl, .string r]] w fun e w' => e = .returned (.bool b) ∧ Below w.heap.size w w' := by
  unfold sem43 at h
  split at h
  case h_2 => cases h
  rename_i l l'
  have hf := lst_inv hx
  have hf' := lst_inv hx'
  obtain ⟨a, ca, rfl⟩ := slice_inv hf
  obtain ⟨a', cb, rfl⟩ := slice_inv hf'
  split at h
  · cases h; rename_i hc
    exact Code.v45_low w na nb ka kb fl a a' y y' _ ca _ cb c r hc
  rename_i hc
  obtain ⟨c, rfl⟩ := Int.eq_ofNat_of_zero_le (a := c) (by omega)
  split at h
  · cases h; rename_i hn
    exact Code.v45_high w na nb ka kb fl a a' y y' _ ca _ cb c r hc hn
  rename_i hn
  split at h
  · cases h; rename_i hr
    simp only [not_or] at hr
    exact Code.v45_rule w na nb ka kb fl a a' y y' _ ca _ cb c r hc (by simpa using hn) (by simpa using hr.1) (by simpa using hr.2.1) (by simpa using hr.2.2)
  rename_i hr
  have hr : r = ⟨#[80]⟩ ∨ r = ⟨#[76]⟩ ∨ r = ⟨#[86]⟩ := by
    have := Classical.not_not.1 hr
    rcases this with e | e | e
    · exact .inl (data_ext (Array.toList_inj.1 (by rw [← toList_eq, e])))
    · exact .inr (.inl (data_ext (Array.toList_inj.1 (by rw [← toList_eq, e]))))
    · exact .inr (.inr (data_ext (Array.toList_inj.1 (by rw [← toList_eq, e]))))
  have hn := Classical.not_not.1 hn
  split at h
  case h_2 => cases h
  rename_i nm b1 mn b3 fs a5 a6 a7 nm' e1 e2 e3 rs key e6 e7 hj hj'
  obtain ⟨ga, oa, ca', e, hga, hca⟩ := RepF.row hW hf hj
  obtain ⟨gb, ob, cb', e', hgb, hcb⟩ := RepF.row hW hf' hj'
  cases e; cases e'
  obtain ⟨⟨ha0, ha1, ha2, ha3⟩, ⟨ha5, ha6, ha7⟩, u, ha4, hu⟩ := ty_cells hca
  obtain ⟨⟨hb0, hb1, hb2, hb3⟩, ⟨hb5, hb6, hb7⟩, u', hb4, hu'⟩ := ty_cells hcb
  have hm : (0 : Int) < (l'.length : Int) := by
    have := (List.getElem?_eq_some_iff.1 hj').1
    omega
  obtain ⟨xf, pc, rfl⟩ := slice_inv hu
  obtain ⟨xr, qc, rfl⟩ := slice_inv hu'
  simp only [List.length_cons, List.length_nil, Nat.zero_mul, Nat.add_zero, Int.toNat_natCast, Nat.zero_add, Nat.reduceAdd] at ha0 ha1 ha2 ha3 ha4 ha5 ha6 ha7 hb0 hb1 hb2 hb3 hb4 hb5 hb6 hb7
  split at h
  · cases h; rename_i hfl
    rcases hr with rfl | rfl | rfl
    · exact Code.v45_neg_p (w := w) (hc := hc) (hn := hn) (hm := hm) (ha0 := ha0) (ha1 := ha1) (ha2 := ha2) (ha3 := ha3) (ha4 := ha4) (ha5 := ha5) (ha6 := ha6) (ha7 := ha7) (hb0 := hb0) (hb1 := hb1) (hb2 := hb2) (hb3 := hb3) (hb4 := hb4) (hb5 := hb5) (hb6 := hb6) (hb7 := hb7) (hga := hga) (hgb := hgb) (hfl := hfl) (na := na) (nb := nb) (ka := ka) (kb := kb) (sa := y) (sb := y') (ca := ca) (cb := cb)
    · exact Code.v45_neg_l (w := w) (hc := hc) (hn := hn) (hm := hm) (ha0 := ha0) (ha1 := ha1) (ha2 := ha2) (ha3 := ha3) (ha4 := ha4) (ha5 := ha5) (ha6 := ha6) (ha7 := ha7) (hb0 := hb0) (hb1 := hb1) (hb2 := hb2) (hb3 := hb3) (hb4 := hb4) (hb5 := hb5) (hb6 := hb6) (hb7 := hb7) (hga := hga) (hgb := hgb) (hfl := hfl) (na := na) (nb := nb) (ka := ka) (kb := kb) (sa := y) (sb := y') (ca := ca) (cb := cb)
    · exact Code.v45_neg_v (w := w) (hc := hc) (hn := hn) (hm := hm) (ha0 := ha0) (ha1 := ha1) (ha2 := ha2) (ha3 := ha3) (ha4 := ha4) (ha5 := ha5) (ha6 := ha6) (ha7 := ha7) (hb0 := hb0) (hb1 := hb1) (hb2 := hb2) (hb3 := hb3) (hb4 := hb4) (hb5 := hb5) (hb6 := hb6) (hb7 := hb7) (hga := hga) (hgb := hgb) (hfl := hfl) (na := na) (nb := nb) (ka := ka) (kb := kb) (sa := y) (sb := y') (ca := ca) (cb := cb)
  rename_i hfl
  obtain ⟨fl, rfl⟩ := Int.eq_ofNat_of_zero_le (a := fl) (by omega)
  split at h
  · cases h; rename_i hfl
    rcases hr with rfl | rfl | rfl
    · exact Code.v45_far_p (w := w) (hc := hc) (hn := hn) (hm := hm) (ha0 := ha0) (ha1 := ha1) (ha2 := ha2) (ha3 := ha3) (ha4 := ha4) (ha5 := ha5) (ha6 := ha6) (ha7 := ha7) (hb0 := hb0) (hb1 := hb1) (hb2 := hb2) (hb3 := hb3) (hb4 := hb4) (hb5 := hb5) (hb6 := hb6) (hb7 := hb7) (hga := hga) (hgb := hgb) (hfl := hfl) (na := na) (nb := nb) (ka := ka) (kb := kb) (sa := y) (sb := y') (ca := ca) (cb := cb)
    · exact Code.v45_far_l (w := w) (hc := hc) (hn := hn) (hm := hm) (ha0 := ha0) (ha1 := ha1) (ha2 := ha2) (ha3 := ha3) (ha4 := ha4) (ha5 := ha5) (ha6 := ha6) (ha7 := ha7) (hb0 := hb0) (hb1 := hb1) (hb2 := hb2) (hb3 := hb3) (hb4 := hb4) (hb5 := hb5) (hb6 := hb6) (hb7 := hb7) (hga := hga) (hgb := hgb) (hfl := hfl) (na := na) (nb := nb) (ka := ka) (kb := kb) (sa := y) (sb := y') (ca := ca) (cb := cb)
    · exact Code.v45_far_v (w := w) (hc := hc) (hn := hn) (hm := hm) (ha0 := ha0) (ha1 := ha1) (ha2 := ha2) (ha3 := ha3) (ha4 := ha4) (ha5 := ha5) (ha6 := ha6) (ha7 := ha7) (hb0 := hb0) (hb1 := hb1) (hb2 := hb2) (hb3 := hb3) (hb4 := hb4) (hb5 := hb5) (hb6 := hb6) (hb7 := hb7) (hga := hga) (hgb := hgb) (hfl := hfl) (na := na) (nb := nb) (ka := ka) (kb := kb) (sa := y) (sb := y') (ca := ca) (cb := cb)
  rename_i hfl
  have hfl := Classical.not_not.1 hfl
  split at h
  · cases h
  rename_i hky
  obtain ⟨key, rfl⟩ := Int.eq_ofNat_of_zero_le (a := key) (by omega)
  split at h
  case h_2 => cases h
  rename_i fn fa fb rn ra rb hj2 hj3
  obtain ⟨gf, uf, pc', e, hgf, hcf⟩ := RepF.row hW hu hj2
  obtain ⟨gr, ur, qc', e', hgr, hcr⟩ := RepF.row hW hu' hj3
  cases e; cases e'
  obtain ⟨hf0, hf1, hf2⟩ := fd_cells hcf
  obtain ⟨hr0, hr1, hr2⟩ := fd_cells hcr
  have hky : (key : Int) < (rs.length : Int) := by
    have := (List.getElem?_eq_some_iff.1 hj3).1
    simp only [Int.toNat_natCast] at this
    omega
  simp only [List.length_cons, List.length_nil, Nat.zero_mul, Nat.add_zero, Int.toNat_natCast, Nat.zero_add, Nat.reduceAdd] at hf0 hf1 hf2 hr0 hr1 hr2
  have hs : IntKind.i64.wrap (fa + fb) = wrap64 (fa + fb) := IntWalk.i64_left _
  split at h
  · cases h; rename_i h2
    rcases hr with rfl | rfl | rfl
    · exact Code.v45_fit_p (w := w) (hc := hc) (hn := hn) (hm := hm) (ha0 := ha0) (ha1 := ha1) (ha2 := ha2) (ha3 := ha3) (ha4 := ha4) (ha5 := ha5) (ha6 := ha6) (ha7 := ha7) (hb0 := hb0) (hb1 := hb1) (hb2 := hb2) (hb3 := hb3) (hb4 := hb4) (hb5 := hb5) (hb6 := hb6) (hb7 := hb7) (hga := hga) (hgb := hgb) (hf0 := hf0) (hf1 := hf1) (hf2 := hf2) (hr0 := hr0) (hr1 := hr1) (hr2 := hr2) (hgf := hgf) (hgr := hgr) (hfl := hfl) (hky := hky) (hs := hs) (hs2 := rfl) (h2 := h2) (na := na) (nb := nb) (ka := ka) (kb := kb) (sa := y) (sb := y') (ca := ca) (cb := cb)
    · exact Code.v45_fit_l (w := w) (hc := hc) (hn := hn) (hm := hm) (ha0 := ha0) (ha1 := ha1) (ha2 := ha2) (ha3 := ha3) (ha4 := ha4) (ha5 := ha5) (ha6 := ha6) (ha7 := ha7) (hb0 := hb0) (hb1 := hb1) (hb2 := hb2) (hb3 := hb3) (hb4 := hb4) (hb5 := hb5) (hb6 := hb6) (hb7 := hb7) (hga := hga) (hgb := hgb) (hf0 := hf0) (hf1 := hf1) (hf2 := hf2) (hr0 := hr0) (hr1 := hr1) (hr2 := hr2) (hgf := hgf) (hgr := hgr) (hfl := hfl) (hky := hky) (hs := hs) (hs2 := rfl) (h2 := h2) (na := na) (nb := nb) (ka := ka) (kb := kb) (sa := y) (sb := y') (ca := ca) (cb := cb)
    · exact Code.v45_fit_v (w := w) (hc := hc) (hn := hn) (hm := hm) (ha0 := ha0) (ha1 := ha1) (ha2 := ha2) (ha3 := ha3) (ha4 := ha4) (ha5 := ha5) (ha6 := ha6) (ha7 := ha7) (hb0 := hb0) (hb1 := hb1) (hb2 := hb2) (hb3 := hb3) (hb4 := hb4) (hb5 := hb5) (hb6 := hb6) (hb7 := hb7) (hga := hga) (hgb := hgb) (hf0 := hf0) (hf1 := hf1) (hf2 := hf2) (hr0 := hr0) (hr1 := hr1) (hr2 := hr2) (hgf := hgf) (hgr := hgr) (hfl := hfl) (hky := hky) (hs := hs) (hs2 := rfl) (h2 := h2) (na := na) (nb := nb) (ka := ka) (kb := kb) (sa := y) (sb := y') (ca := ca) (cb := cb)
  · cases h; rename_i h2
    rcases hr with rfl | rfl | rfl
    · exact Code.v45_not_p (w := w) (hc := hc) (hn := hn) (hm := hm) (ha0 := ha0) (ha1 := ha1) (ha2 := ha2) (ha3 := ha3) (ha4 := ha4) (ha5 := ha5) (ha6 := ha6) (ha7 := ha7) (hb0 := hb0) (hb1 := hb1) (hb2 := hb2) (hb3 := hb3) (hb4 := hb4) (hb5 := hb5) (hb6 := hb6) (hb7 := hb7) (hga := hga) (hgb := hgb) (hf0 := hf0) (hf1 := hf1) (hf2 := hf2) (hr0 := hr0) (hr1 := hr1) (hr2 := hr2) (hgf := hgf) (hgr := hgr) (hfl := hfl) (hky := hky) (hs := hs) (hs2 := rfl) (h2 := h2) (h3 := Int.not_le.1 h2) (h4 := decide_eq_false h2) (na := na) (nb := nb) (ka := ka) (kb := kb) (sa := y) (sb := y') (ca := ca) (cb := cb)
    · exact Code.v45_not_l (w := w) (hc := hc) (hn := hn) (hm := hm) (ha0 := ha0) (ha1 := ha1) (ha2 := ha2) (ha3 := ha3) (ha4 := ha4) (ha5 := ha5) (ha6 := ha6) (ha7 := ha7) (hb0 := hb0) (hb1 := hb1) (hb2 := hb2) (hb3 := hb3) (hb4 := hb4) (hb5 := hb5) (hb6 := hb6) (hb7 := hb7) (hga := hga) (hgb := hgb) (hf0 := hf0) (hf1 := hf1) (hf2 := hf2) (hr0 := hr0) (hr1 := hr1) (hr2 := hr2) (hgf := hgf) (hgr := hgr) (hfl := hfl) (hky := hky) (hs := hs) (hs2 := rfl) (h2 := h2) (h3 := Int.not_le.1 h2) (h4 := decide_eq_false h2) (na := na) (nb := nb) (ka := ka) (kb := kb) (sa := y) (sb := y') (ca := ca) (cb := cb)
    · exact Code.v45_not_v (w := w) (hc := hc) (hn := hn) (hm := hm) (ha0 := ha0) (ha1 := ha1) (ha2 := ha2) (ha3 := ha3) (ha4 := ha4) (ha5 := ha5) (ha6 := ha6) (ha7 := ha7) (hb0 := hb0) (hb1 := hb1) (hb2 := hb2) (hb3 := hb3) (hb4 := hb4) (hb5 := hb5) (hb6 := hb6) (hb7 := hb7) (hga := hga) (hgb := hgb) (hf0 := hf0) (hf1 := hf1) (hf2 := hf2) (hr0 := hr0) (hr1 := hr1) (hr2 := hr2) (hgf := hgf) (hgr := hgr) (hfl := hfl) (hky := hky) (hs := hs) (hs2 := rfl) (h2 := h2) (h3 := Int.not_le.1 h2) (h4 := decide_eq_false h2) (na := na) (nb := nb) (ka := ka) (kb := kb) (sa := y) (sb := y') (ca := ca) (cb := cb)
end Go.Proofs.Ytbchmbddcdionaa.Ev

/- logic: isLink as a function held by a proof of its own. -/
set_option linter.unusedSimpArgs false
set_option linter.unusedVariables false
namespace Go.Proofs.Ytbchmbddcdionaa.Ev
open Go Go.RowKit

theorem user45 {c : CFn} (hb : c.body = .user p43) (hcl : c.closed = false) (hsp : c.split = false) (hres : c.res = [.t 0]) : UserOk Try.prog 45 c where
  fn := ⟨Try.f45, Try.func45, by kernel_rfl, by kernel_rfl⟩
  user := ⟨p43, hb⟩
  plain := ⟨hcl, hsp⟩
  res := ⟨1, by rw [hres]; rfl, by
    intro p hp args H q hq
    rw [hb] at hp; cases hp
    unfold p43 at hq
    split at hq
    · cases hs : sem43 _ _ _ _ _ with
      | none => rw [hs] at hq; cases hq
      | some b => rw [hs] at hq; cases hq; rfl
    · cases hq⟩
  ok := by
    intro p hp args H vs' H' h S w B vs hS hW hl hr
    rw [hb] at hp; cases hp
    unfold p43 at h
    split at h
    case h_2 => cases h
    cases hs : sem43 _ _ _ _ _ with
    | none => rw [hs] at h; cases h
    | some b =>
      rw [hs] at h; cases h
      match vs, hl with
      | [v0, v1, v2], _ =>
        obtain ⟨x, y, rfl, hx⟩ := base_inv (hr 0 _ _ rfl rfl)
        obtain ⟨x', y', rfl, hx'⟩ := base_inv (hr 1 _ _ rfl rfl)
        have h2 := link_inv (hr 2 _ _ rfl rfl)
        subst h2
        refine (calls45 hW hx hx' hs).mono ?_
        rintro e w' ⟨rfl, hB⟩
        exact ⟨_, S, rfl, hS, .one (.s (.frz (.bool b))), hW.same hB.size (fun g hg => hB.block g hg), Ext.refl S, .of hB hW.base⟩
end Go.Proofs.Ytbchmbddcdionaa.Ev

/- logic: links between valid bases. -/
set_option linter.unusedSimpArgs false
set_option linter.unusedVariables false
namespace Go.Proofs.Ytbchmbddcdionaa.Code
open Go.Proofs.Ytbchmbddcdionaa.Ev

structure Link where
  child : Int
  field : Int
  rule : ByteArray
def eLink (l : Link) : AV := .agg [.int .i64 l.child, .int .i64 l.field, .str l.rule]
def bLink (l : Link) : Blk := ⟨0, true, 27, 3, [[.int .i64 l.child, .int .i64 l.field, .str l.rule]]⟩
def fieldFit (t r : Ty) (k : Int) : Bool :=
  decide (0 ≤ k) && match t.fields[k.toNat]?, r.fields[r.key.toNat]? with
  | some f, some g => decide (f.at' + f.bytes ≤ t.min) && decide (f.bytes = g.bytes)
  | _, _ => false
def ruleOk (r : ByteArray) : Bool := decide (r = ⟨#[80]⟩) || decide (r = ⟨#[76]⟩) || decide (r = ⟨#[86]⟩)
def isLink (a b : Base) (l : Link) : Bool :=
  decide (1 ≤ l.child) && decide (l.child < (a.types.length : Int)) && ruleOk l.rule && match a.types[l.child.toNat]?, b.types[0]? with
  | some t, some r => fieldFit t r l.field
  | _, _ => false
theorem ba_toList (r : ByteArray) (x : UInt8) : r.toList = [x] ↔ r = ⟨#[x]⟩ := by
  constructor
  · intro h
    exact data_ext (Array.toList_inj.1 (by rw [← toList_eq, h]))
  · intro h; subst h; rw [toList_eq]
theorem tyOk_at {ts : List Ty} (h : tysOk ts = true) {k : Nat} {t : Ty} (ht : ts[k]? = some t) : tyOk t = true := by
  have := tell_true.1 h k t ht
  simp only [tyAt, Bool.and_eq_true] at this
  exact this.1.1.1
theorem root_at {b : Base} (h : validB b = true) : ∃ (r : Ty) (m : Nat) (k : Fd), b.types[0]? = some r ∧ tyOk r = true ∧ r.key = (m : Int) ∧ r.fields[m]? = some k ∧ 0 ≤ k.at' ∧ 1 ≤ k.bytes ∧ k.at' + k.bytes ≤ r.min ∧ r.min ≤ 40 := by
  have ht := valid_tys h
  simp only [validB, areTys, Bool.and_eq_true, decide_eq_true_eq] at h
  obtain ⟨r, hr⟩ : ∃ r, b.types[0]? = some r := ⟨_, List.getElem?_eq_getElem (by omega)⟩
  have h1 := tell_true.1 ht 0 r hr
  simp only [tyAt, Bool.and_eq_true, if_true, rootOk, decide_eq_true_eq] at h1
  obtain ⟨m, k, g1, g2, g3, g4, g5, g6⟩ := key_in h1.1.1.1 h1.1.2.1.1.2
  exact ⟨r, m, k, hr, h1.1.1.1, g1, g2, g3, g4, g5, g6⟩
theorem fld_wrap {t : Ty} (h : tyOk t = true) {i : Nat} {f : Fd} (hf : t.fields[i]? = some f) : 0 ≤ f.at' ∧ 1 ≤ f.bytes ∧ f.at' + f.bytes ≤ 40 ∧ Go.RowKit.wrap64 (f.at' + f.bytes) = f.at' + f.bytes := by
  simp only [tyOk, Bool.and_eq_true] at h
  obtain ⟨⟨⟨_, h1⟩, h2⟩, _⟩ := h
  simp only [sizeOk, Bool.and_eq_true, decide_eq_true_eq] at h1
  have := fld_of h2 hf
  refine ⟨by omega, by omega, by omega, ?_⟩
  unfold Go.RowKit.wrap64
  omega
theorem sem_link {a b : Base} (va : validB a = true) (vb : validB b = true) (l : Link) : sem43 (eTys a.types) (eTys b.types) l.child l.field l.rule = some (isLink a b l) := by
  obtain ⟨r, m, k, hr, hro, hm, hk, k1, k2, k3, k4⟩ := root_at vb
  unfold sem43 eTys isLink
  simp only [List.length_map, List.getElem?_map, hr, Option.map_some]
  by_cases h1 : l.child < 1
  · rw [if_pos h1, decide_eq_false (by omega)]; simp
  rw [if_neg h1, decide_eq_true (by omega : 1 ≤ l.child)]
  by_cases h2 : l.child < (a.types.length : Int)
  rotate_left
  · rw [if_pos h2, decide_eq_false h2]; simp
  rw [if_neg (not_not_intro h2), decide_eq_true h2]
  by_cases h3 : ruleOk l.rule = true
  rotate_left
  · have h3' : ¬ (l.rule.toList = [80] ∨ l.rule.toList = [76] ∨ l.rule.toList = [86]) := by simpa [ruleOk, ba_toList, not_or, and_assoc] using h3
    rw [if_pos h3']
    simp [h3]
  have h3' : l.rule.toList = [80] ∨ l.rule.toList = [76] ∨ l.rule.toList = [86] := by simpa [ruleOk, ba_toList, or_assoc] using h3
  rw [if_neg (not_not_intro h3'), h3]
  obtain ⟨t, ht⟩ : ∃ t, a.types[l.child.toNat]? = some t := ⟨_, List.getElem?_eq_getElem (by omega)⟩
  have hto := tyOk_at (valid_tys va) ht
  simp only [ht, Option.map_some, rTy, eFds, List.length_map, List.getElem?_map, Bool.true_and, fieldFit]
  by_cases h4 : l.field < 0
  · rw [if_pos h4, decide_eq_false (by omega)]; simp
  rw [if_neg h4, decide_eq_true (by omega : 0 ≤ l.field), Bool.true_and]
  by_cases h5 : l.field < (t.fields.length : Int)
  rotate_left
  · rw [if_pos h5, List.getElem?_eq_none (by omega)]
  obtain ⟨f, hf⟩ : ∃ f, t.fields[l.field.toNat]? = some f := ⟨_, List.getElem?_eq_getElem (by omega)⟩
  obtain ⟨w1, w2, w3, w4⟩ := fld_wrap hto hf
  rw [if_neg (not_not_intro h5), hm, if_neg (by omega)]
  simp only [Int.toNat_natCast, hk, hf, Option.map_some, rFd, w4]
  by_cases h6 : f.at' + f.bytes ≤ t.min
  · rw [if_pos h6, decide_eq_true h6, Bool.true_and]
    rfl
  · rw [if_neg h6, decide_eq_false h6, Bool.false_and]
structure LinkAt (a b : Base) (l : Link) (c : Nat) (t : Ty) (k : Nat) (f : Fd) : Prop where
  child : l.child = (c : Int)
  pos : 1 ≤ c
  ty : a.types[c]? = some t
  ok : tyOk t = true
  field : l.field = (k : Int)
  fld : t.fields[k]? = some f
  at0 : 0 ≤ f.at'
  b1 : 1 ≤ f.bytes
  fit : f.at' + f.bytes ≤ t.min
  le : f.at' + f.bytes ≤ 40
  rule : l.rule = ⟨#[80]⟩ ∨ l.rule = ⟨#[76]⟩ ∨ l.rule = ⟨#[86]⟩
theorem link_at {a b : Base} {l : Link} (va : validB a = true) (h : isLink a b l = true) : ∃ (c : Nat) (t : Ty) (k : Nat) (f : Fd), LinkAt a b l c t k f := by
  unfold isLink at h
  simp only [Bool.and_eq_true, decide_eq_true_eq] at h
  obtain ⟨⟨⟨h1, h2⟩, h3⟩, h4⟩ := h
  split at h4
  · rename_i t r ht hr
    simp only [fieldFit, Bool.and_eq_true, decide_eq_true_eq] at h4
    obtain ⟨h5, h6⟩ := h4
    split at h6
    · rename_i f g hf hg
      simp only [Bool.and_eq_true, decide_eq_true_eq] at h6
      have hto := tyOk_at (valid_tys va) ht
      obtain ⟨w1, w2, w3, w4⟩ := fld_wrap hto hf
      refine ⟨l.child.toNat, t, l.field.toNat, f, ⟨by omega, by omega, ht, hto, by omega, hf, w1, w2, h6.1, w3, ?_⟩⟩
      simpa [ruleOk, or_assoc] using h3
    · cases h6
  · cases h4
theorem fn_user {call it} {n : Nat} {res : List CRes} {p : List AV → Heap → Option (List AV × Heap)} (args : List AV) (H : Heap) : evFn call it ⟨n, res, .user p, false, false⟩ args H = bodyK res ((p args H).map fun r => (CX.ret, (argEnv 0 r.1, r.2))) := by
  rw [fn_eq]
  simp only [evCode, user_args]
theorem f43 {a b : Base} (va : validB a = true) (vb : validB b = true) (l : Link) (H : Heap) : cal (evC cprog) false 43 [eBase a, eBase b, eLink l] H = some (.bool (isLink a b l), H) := by
  rw [cal_of at43, show c43 = ⟨0, [.t 0], .user p43, false, false⟩ from rfl, fn_user]
  have h : p43 [eBase a, eBase b, eLink l] H = some ([.bool (isLink a b l)], H) := by
    have := sem_link va vb l
    simp only [p43, eBase, eLink, this, Option.map_some]
  rw [h]
  simp only [evX, Int.reduceEq, Int.reduceLT, Int.reduceLE, Nat.reduceMul, Nat.reduceMod, evW, fn_eq, evR, Nat.reduceAdd, Nat.reduceLT, Nat.reduceLeDiff, reduceIte, Nat.reduceEqDiff, reduceCtorEq, argEnv, eq_self, if_true, if_false]
  repeat' ((first | rw [guardK_cases] | rw [condK_bool] | rw [guardD_cases]); split <;> simp only [evX, Int.reduceEq, Int.reduceLT, Int.reduceLE, Nat.reduceMul, Nat.reduceMod, evW, evR, Nat.reduceAdd, Nat.reduceLT, Nat.reduceLeDiff, reduceIte, Nat.reduceEqDiff, reduceCtorEq, argEnv, eq_self, if_true, if_false, *])
theorem f45 {a b : Base} (va : validB a = true) (vb : validB b = true) (l : Link) (H : Heap) : cal (evC cprog) false 45 [eBase a, eBase b, eLink l] H = some (.bool (isLink a b l), H) := by
  rw [cal_of at45, show c45 = ⟨0, [.t 0], .user p43, false, false⟩ from rfl, fn_user]
  have h : p43 [eBase a, eBase b, eLink l] H = some ([.bool (isLink a b l)], H) := by
    have := sem_link va vb l
    simp only [p43, eBase, eLink, this, Option.map_some]
  rw [h]
  simp only [evX, Int.reduceEq, Int.reduceLT, Int.reduceLE, Nat.reduceMul, Nat.reduceMod, evW, fn_eq, evR, Nat.reduceAdd, Nat.reduceLT, Nat.reduceLeDiff, reduceIte, Nat.reduceEqDiff, reduceCtorEq, argEnv, eq_self, if_true, if_false]
  repeat' ((first | rw [guardK_cases] | rw [condK_bool] | rw [guardD_cases]); split <;> simp only [evX, Int.reduceEq, Int.reduceLT, Int.reduceLE, Nat.reduceMul, Nat.reduceMod, evW, evR, Nat.reduceAdd, Nat.reduceLT, Nat.reduceLeDiff, reduceIte, Nat.reduceEqDiff, reduceCtorEq, argEnv, eq_self, if_true, if_false, *])
theorem f14 (a b : Base) (ha : a.Ok) (hb : b.Ok) (l : Link) (H : Heap) : cal (evC cprog) false 14 [eBase a, eBase b, eLink l] H = some (bEr (validB a && validB b && isLink a b l) (if (validB a && validB b) = true then 0 else 100), H) := by
  rw [cal_of at14]
  have h1 := f42 a ha
  have h2 := f42 b hb
  simp only [eBase] at h1 h2
  cases va : validB a with
  | false => simp only [c14, eBase, eLink, h1, va, bEr, evX, Int.reduceEq, Int.reduceLT, Int.reduceLE, Nat.reduceMul, Nat.reduceMod, evW, fn_eq, evR, Nat.reduceAdd, Nat.reduceLT, Nat.reduceLeDiff, reduceIte, Nat.reduceEqDiff, reduceCtorEq, argEnv, eq_self, if_true, if_false]
             repeat' ((first | rw [guardK_cases] | rw [condK_bool] | rw [guardD_cases]); split <;> simp only [c14, eBase, eLink, h1, va, bEr, evX, Int.reduceEq, Int.reduceLT, Int.reduceLE, Nat.reduceMul, Nat.reduceMod, evW, evR, Nat.reduceAdd, Nat.reduceLT, Nat.reduceLeDiff, reduceIte, Nat.reduceEqDiff, reduceCtorEq, argEnv, eq_self, if_true, if_false, *])
  | true =>
    cases vb : validB b with
    | false => simp only [c14, eBase, eLink, h1, h2, va, vb, bEr, evX, Int.reduceEq, Int.reduceLT, Int.reduceLE, Nat.reduceMul, Nat.reduceMod, evW, fn_eq, evR, Nat.reduceAdd, Nat.reduceLT, Nat.reduceLeDiff, reduceIte, Nat.reduceEqDiff, reduceCtorEq, argEnv, eq_self, if_true, if_false]
               repeat' ((first | rw [guardK_cases] | rw [condK_bool] | rw [guardD_cases]); split <;> simp only [c14, eBase, eLink, h1, h2, va, vb, bEr, evX, Int.reduceEq, Int.reduceLT, Int.reduceLE, Nat.reduceMul, Nat.reduceMod, evW, evR, Nat.reduceAdd, Nat.reduceLT, Nat.reduceLeDiff, reduceIte, Nat.reduceEqDiff, reduceCtorEq, argEnv, eq_self, if_true, if_false, *])
    | true =>
      have h3 := f43 va vb l
      simp only [eBase, eLink] at h3
      simp only [c14, eBase, eLink, h1, h2, h3, va, vb, bEr, evX, Int.reduceEq, Int.reduceLT, Int.reduceLE, Nat.reduceMul, Nat.reduceMod, evW, fn_eq, evR, Nat.reduceAdd, Nat.reduceLT, Nat.reduceLeDiff, reduceIte, Nat.reduceEqDiff, reduceCtorEq, argEnv, eq_self, if_true, if_false]
      repeat' ((first | rw [guardK_cases] | rw [condK_bool] | rw [guardD_cases]); split <;> simp only [c14, eBase, eLink, h1, h2, h3, va, vb, bEr, evX, Int.reduceEq, Int.reduceLT, Int.reduceLE, Nat.reduceMul, Nat.reduceMod, evW, evR, Nat.reduceAdd, Nat.reduceLT, Nat.reduceLeDiff, reduceIte, Nat.reduceEqDiff, reduceCtorEq, argEnv, eq_self, if_true, if_false, *])
end Go.Proofs.Ytbchmbddcdionaa.Code

/- logic: what is collected; keys of the base, of the program. -/
set_option linter.unusedSimpArgs false
set_option linter.unusedVariables false
namespace Go.Proofs.Ytbchmbddcdionaa.Code
open Go.Proofs.Ytbchmbddcdionaa.Ev

/-- what is gathered, element by element -/
def gath {α β : Type} (g : Nat → α → List β) : Nat → List α → List β
  | _, [] => []
  | k, x :: l => g k x ++ gath g (k + 1) l
theorem gath_take {α β : Type} (g : Nat → α → List β) : ∀ (l : List α) (k i : Nat) (x : α), l[i]? = some x → gath g k (l.take (i + 1)) = gath g k (l.take i) ++ g (k + i) x
  | [], k, i, x, h => by simp at h
  | y :: l, k, 0, x, h => by
    simp at h; subst h
    simp [gath]
  | y :: l, k, i + 1, x, h => by
    rw [List.take_succ_cons, List.take_succ_cons, gath, gath, gath_take g l (k + 1) i x (by simpa using h), List.append_assoc, show k + 1 + i = k + (i + 1) by omega]
theorem gath_len {α β : Type} (g : Nat → α → List β) (h : ∀ i x, (g i x).length ≤ 1) : ∀ (l : List α) (k : Nat), (gath g k l).length ≤ l.length
  | [], k => by simp [gath]
  | y :: l, k => by
    have := gath_len g h l (k + 1)
    have := h k y
    simp only [gath, List.length_append, List.length_cons]; omega
/-- a loop that gathers into a slice that grows -/
theorem gath_rule {α β : Type} (l : List α) (g : Nat → α → List β) (enc : β → List AV) (m : List Nat) (env : Nat → AV → Env) (H : Heap) (sz ty : Nat) (body : St → Option (CX × St)) (x0 : Nat) (mo : List Nat) (eo : AV → Env)
    (step : ∀ i x, l[i]? = some x → ∀ E X rv, keepEnv E m = env i rv → Out H.length sz ty X rv ((gath g 0 (l.take i)).map enc) →
      ∃ T X' rv', body (E, H ++ X) = some (.normal, T, H ++ X') ∧ keepEnv T m = env (i + 1) rv' ∧ Out H.length sz ty X' rv' ((gath g 0 (l.take i)).map enc ++ (g i x).map enc))
    (fin : ∀ E X rv, keepEnv E m = env l.length rv → ∃ T, body (E, H ++ X) = some (.exit x0, T, H ++ X) ∧ keepEnv T mo = eo rv)
    (st : St) (X0 : Heap) (rv0 : AV) (h0 : Out H.length sz ty X0 rv0 []) (hE : keepEnv st.1 m = env 0 rv0) (hH : st.2 = H ++ X0) (z : Option (CX × St)) (hz : itLim body st = z) :
    ∃ T X rv, z = some (.exit x0, T, H ++ X) ∧ keepEnv T mo = eo rv ∧ Out H.length sz ty X rv ((gath g 0 l).map enc) := by
  have L := loop_rule (σ := Nat × Heap × AV) (m := m) (env := fun s => env s.1 s.2.2) (hp := fun s => H ++ s.2.1)
    (P := fun _ r => ∃ T X rv, r = (.exit x0, T, H ++ X) ∧ keepEnv T mo = eo rv ∧ Out H.length sz ty X rv ((gath g 0 l).map enc))
    (mu := fun s => l.length - s.1) (I := fun s => s.1 ≤ l.length ∧ Out H.length sz ty s.2.1 s.2.2 ((gath g 0 (l.take s.1)).map enc)) body ?_ (0, X0, rv0) st ⟨by simp, by simpa [gath] using h0⟩ hE hH z hz
  · obtain ⟨_, rfl, T, X, rv, rfl, h⟩ := L
    exact ⟨T, X, rv, rfl, h⟩
  · intro ⟨i, X, rv⟩ ⟨hi, hO⟩ E hE
    simp only at hi hO hE ⊢
    by_cases hlt : i < l.length
    · obtain ⟨x, hx⟩ : ∃ x, l[i]? = some x := ⟨_, List.getElem?_eq_getElem hlt⟩
      obtain ⟨T, X', rv', h1, h2, h3⟩ := step i x hx E X rv hE hO
      rw [h1]
      refine q_next (i + 1, X', rv') h2 rfl ⟨by omega, ?_⟩ (by simp only; omega) fun r h => h
      simp only [gath_take g l 0 i x hx, Nat.zero_add, List.map_append]
      exact h3
    · have : i = l.length := by omega
      subst this
      obtain ⟨T, h1, h2⟩ := fin E X rv hE
      rw [h1]
      rw [List.take_of_length_le (Nat.le_refl _)] at hO
      exact q_exit ⟨_, _, _, rfl, h2, hO⟩
theorem app_row {n sz ty : Nat} {X : Heap} {rv : AV} {rows : List (List AV)} (h : Out n sz ty X rv rows) (H0 : Heap) (hn : n = H0.length) (bytes : Nat) (r : List AV) (hr : r.length = sz) (hb : (rows.length + 1) * bytes ≤ reach ∧ rows.length + 1 ≤ reach) :
    ∃ rv' X', appK ty sz bytes false (H0 ++ (X ++ [⟨0, true, ty, sz, [r]⟩])) (some rv) (some (.ref (n + X.length) 0 sz 0 1)) = some (rv', H0 ++ X') ∧ rv'.isTup = false ∧ Out n sz ty X' rv' (rows ++ [r]) ∧ Keeps n (X ++ [⟨0, true, ty, sz, [r]⟩]) rv X' ∧ Moved n (X ++ [⟨0, true, ty, sz, [r]⟩]) rv rv' := by
  subst hn
  exact (h.more [⟨0, true, ty, sz, [r]⟩]).app2 H0 rfl bytes _ [r] (by simp [srcRows, rowsOf, curBlk, at_app]) (by simpa using hr) (by simp) (by simpa using hb)
/-- one element more, of one cell -/
theorem app_int {n ty : Nat} {X : Heap} {rv : AV} {l : List Int} (h : Out n 1 ty X rv (l.map rI)) (H0 : Heap) (hn : n = H0.length) (hl : l.length ≤ 1000000) (a : Int) :
    ∃ rv' X', appK ty 1 8 false (H0 ++ (X ++ [⟨0, true, ty, 1, [[.int .i64 a]]⟩])) (some rv) (some (.ref (H0.length + X.length) 0 1 0 1)) = some (rv', H0 ++ X') ∧ rv'.isTup = false ∧ Out n 1 ty X' rv' ((l ++ [a]).map rI) := by
  subst hn
  obtain ⟨rv', X', a1, a2, a3, _⟩ := app_row h H0 rfl 8 (rI a) rfl (by simp only [List.length_map, reach]; omega)
  exact ⟨rv', X', a1, a2, by simpa using a3⟩

theorem f89a (b : Base) (hb : b.Ok) (a : AV) (hat : a.isTup = false) (l : List Int) (hl : l.length < 9223372036854775807) (H : Heap) (ha : SlAt H 1 a (l.map rI)) : cal (evC cprog) false 89 [eBase b, a] H = some (.int .i64 (errB b l), H) := by
  rw [cal_of at89]
  have h1 := f42 b hb
  simp only [eBase] at h1
  cases hv : validB b with
  | false =>
    simp only [c89, eBase, h1, hv, evX, Int.reduceEq, Int.reduceLT, Int.reduceLE, Nat.reduceMul, Nat.reduceMod, evW, fn_eq, evR, Nat.reduceAdd, Nat.reduceLT, Nat.reduceLeDiff, reduceIte, Nat.reduceEqDiff, reduceCtorEq, argEnv, eq_self, if_true, if_false]
    repeat' ((first | rw [guardK_cases] | rw [condK_bool] | rw [guardD_cases]); split <;> simp only [c89, eBase, h1, hv, evX, Int.reduceEq, Int.reduceLT, Int.reduceLE, Nat.reduceMul, Nat.reduceMod, evW, evR, Nat.reduceAdd, Nat.reduceLT, Nat.reduceLeDiff, reduceIte, Nat.reduceEqDiff, reduceCtorEq, argEnv, eq_self, if_true, if_false, *])
    simp [errB, hv]
  | true =>
    have h65 := containsFunc_ok (g := 109) at86 (indexFunc_ok (sz := 1) (ag := false) at109 rI (fun x => .int .i64 x) lI 112 [.ptr H.length 0 4 0 0] (tyOut b.types) (H ++ [bBase b]) a l (ha.app _) hl fun x _ => f112 b x H.length _ (.mk (by simp)))
    simp only [bBase] at h65
    cases hc : l.any (tyOut b.types) with
    | false =>
      simp only [c89, eBase, h1, hv, h65, hc, scal_ptr, hat, evX, Int.reduceEq, Int.reduceLT, Int.reduceLE, Nat.reduceMul, Nat.reduceMod, evW, fn_eq, evR, Nat.reduceAdd, Nat.reduceLT, Nat.reduceLeDiff, reduceIte, Nat.reduceEqDiff, reduceCtorEq, argEnv, eq_self, if_true, if_false]
      repeat' ((first | rw [guardK_cases] | rw [condK_bool] | rw [guardD_cases]); split <;> simp only [c89, eBase, h1, hv, h65, hc, scal_ptr, hat, evX, Int.reduceEq, Int.reduceLT, Int.reduceLE, Nat.reduceMul, Nat.reduceMod, evW, evR, Nat.reduceAdd, Nat.reduceLT, Nat.reduceLeDiff, reduceIte, Nat.reduceEqDiff, reduceCtorEq, argEnv, eq_self, if_true, if_false, *])
      simp [errB, hv, hc]
    | true =>
      simp only [c89, eBase, h1, hv, h65, hc, scal_ptr, hat, evX, Int.reduceEq, Int.reduceLT, Int.reduceLE, Nat.reduceMul, Nat.reduceMod, evW, fn_eq, evR, Nat.reduceAdd, Nat.reduceLT, Nat.reduceLeDiff, reduceIte, Nat.reduceEqDiff, reduceCtorEq, argEnv, eq_self, if_true, if_false]
      repeat' ((first | rw [guardK_cases] | rw [condK_bool] | rw [guardD_cases]); split <;> simp only [c89, eBase, h1, hv, h65, hc, scal_ptr, hat, evX, Int.reduceEq, Int.reduceLT, Int.reduceLE, Nat.reduceMul, Nat.reduceMod, evW, evR, Nat.reduceAdd, Nat.reduceLT, Nat.reduceLeDiff, reduceIte, Nat.reduceEqDiff, reduceCtorEq, argEnv, eq_self, if_true, if_false, *])
      simp [errB, hv, hc]
theorem f90 (t : Ty) (d : ByteArray) (H : Heap) : cal (evC cprog) false 90 [.agg (rTy t), .str d] H = some (.bool (decide (t.min ≤ (d.size : Int)) && decide ((d.size : Int) ≤ t.size)), H) := by
  rw [cal_of at90]
  simp only [c90, rTy, evX, Int.reduceEq, Int.reduceLT, Int.reduceLE, Nat.reduceMul, Nat.reduceMod, evW, fn_eq, evR, Nat.reduceAdd, Nat.reduceLT, Nat.reduceLeDiff, reduceIte, Nat.reduceEqDiff, reduceCtorEq, argEnv, eq_self, if_true, if_false]
  repeat' ((first | rw [guardK_cases] | rw [condK_bool] | rw [guardD_cases]); split <;> simp only [c90, rTy, evX, Int.reduceEq, Int.reduceLT, Int.reduceLE, Nat.reduceMul, Nat.reduceMod, evW, evR, Nat.reduceAdd, Nat.reduceLT, Nat.reduceLeDiff, reduceIte, Nat.reduceEqDiff, reduceCtorEq, argEnv, eq_self, if_true, if_false, *])
  all_goals simp_all
theorem f91 (f : Fd) (h0 : 0 ≤ f.at') (h1 : 1 ≤ f.bytes) (h2 : f.at' + f.bytes ≤ 40) (d : ByteArray) (hd : f.at' + f.bytes ≤ (d.size : Int)) (H : Heap) :
    cal (evC cprog) false 91 [.agg (rFd f), .str d] H = some (.tup [.str (d.extract f.at'.toNat (f.at' + f.bytes).toNat), .bool true], H) := by
  rw [cal_of at91]
  have hw := wrapQ (a := f.at') (b := f.bytes) (by omega) (by omega) (by omega) (by omega)
  have k2 : ¬ (d.size : Int) < f.at' + f.bytes := by omega
  have hsl := slcs_at d (a := f.at') (c := f.at' + f.bytes) h0 (by omega) (by omega)
  simp only [c91, rFd, k2, hw, p_slcs, slcsK_some, asNat_int h0, asNat_int (show 0 ≤ f.at' + f.bytes by omega), hsl, evX, Int.reduceEq, Int.reduceLT, Int.reduceLE, Nat.reduceMul, Nat.reduceMod, evW, fn_eq, evR, Nat.reduceAdd, Nat.reduceLT, Nat.reduceLeDiff, reduceIte, Nat.reduceEqDiff, reduceCtorEq, argEnv, eq_self, if_true, if_false]
  repeat' ((first | rw [guardK_cases] | rw [condK_bool] | rw [guardD_cases]); split <;> simp only [c91, rFd, k2, hw, p_slcs, slcsK_some, asNat_int h0, asNat_int (show 0 ≤ f.at' + f.bytes by omega), hsl, evX, Int.reduceEq, Int.reduceLT, Int.reduceLE, Nat.reduceMul, Nat.reduceMod, evW, evR, Nat.reduceAdd, Nat.reduceLT, Nat.reduceLeDiff, reduceIte, Nat.reduceEqDiff, reduceCtorEq, argEnv, eq_self, if_true, if_false, *])
theorem f64k (b : Base) (hb : b.Ok) (hv : validB b = true) (k : Nat) (t : Ty) (ht : b.types[k]? = some t) (hty : tyOk t = true) (d : ByteArray) (hf : fits b.types ⟨(k : Int), d⟩ = true) (H : Heap) :
    cal (evC cprog) false 64 [eBase b, .int .i64 (k : Int), .str d] H = some (.tup [.str (keyOf t d), .int .i64 0], H) := by
  rw [cal_of at64]
  have hk := (List.getElem?_eq_some_iff.1 ht).1
  have h89 := f89a b hb (.ref (H.length + 1) 0 1 0 1) rfl [(k : Int)] (by simp) (H ++ [bBase b, bI (k : Int)]) (one_slat H (k : Int) [bBase b])
  rw [errB_ok hv hk] at h89
  simp only [eBase, bBase, bI] at h89
  have hat := aTy ht
  have h90 := f90 t d
  rw [fits_at (x := ⟨(k : Int), d⟩) rfl ht] at hf
  rw [hf] at h90
  simp only [rTy] at h90
  by_cases hk : t.key < 0
  · simp only [c64, eBase, h89, hat, rTy, h90, hk, evX, Int.reduceEq, Int.reduceLT, Int.reduceLE, Nat.reduceMul, Nat.reduceMod, evW, fn_eq, evR, Nat.reduceAdd, Nat.reduceLT, Nat.reduceLeDiff, reduceIte, Nat.reduceEqDiff, reduceCtorEq, argEnv, eq_self, if_true, if_false]
    repeat' ((first | rw [guardK_cases] | rw [condK_bool] | rw [guardD_cases]); split <;> simp only [c64, eBase, h89, hat, rTy, h90, hk, evX, Int.reduceEq, Int.reduceLT, Int.reduceLE, Nat.reduceMul, Nat.reduceMod, evW, evR, Nat.reduceAdd, Nat.reduceLT, Nat.reduceLeDiff, reduceIte, Nat.reduceEqDiff, reduceCtorEq, argEnv, eq_self, if_true, if_false, *])
    simp [keyOf, hk]
  · obtain ⟨m, f, h1, h2, h3, h4, h5, h6⟩ := key_in hty (by omega)
    have haf := aFd h2
    have k0 : ¬ (m : Int) < 0 := by omega
    simp only [Bool.and_eq_true, decide_eq_true_eq] at hf
    have h91 := f91 f h3 h4 (by omega) d (by omega)
    simp only [rFd] at h91
    rw [h1] at h90
    rw [keyOf_at h1 h2]
    simp only [c64, eBase, h89, hat, rTy, rFd, h90, h1, k0, haf, h91, evX, Int.reduceEq, Int.reduceLT, Int.reduceLE, Nat.reduceMul, Nat.reduceMod, evW, fn_eq, evR, Nat.reduceAdd, Nat.reduceLT, Nat.reduceLeDiff, reduceIte, Nat.reduceEqDiff, reduceCtorEq, argEnv, eq_self, if_true, if_false]
    repeat' ((first | rw [guardK_cases] | rw [condK_bool] | rw [guardD_cases]); split <;> simp only [c64, eBase, h89, hat, rTy, rFd, h90, h1, k0, haf, h91, evX, Int.reduceEq, Int.reduceLT, Int.reduceLE, Nat.reduceMul, Nat.reduceMod, evW, evR, Nat.reduceAdd, Nat.reduceLT, Nat.reduceLeDiff, reduceIte, Nat.reduceEqDiff, reduceCtorEq, argEnv, eq_self, if_true, if_false, *])
theorem f78g (b : Base) (hb : b.Ok) (hv : validB b = true) (k : Nat) (t : Ty) (ht : b.types[k]? = some t) (m : Nat) (f : Fd) (hm : t.fields[m]? = some f) (h3 : 0 ≤ f.at') (h4 : 1 ≤ f.bytes) (h5 : f.at' + f.bytes ≤ t.min) (h6 : f.at' + f.bytes ≤ 40) (d : ByteArray) (hf : fits b.types ⟨(k : Int), d⟩ = true) (H : Heap) :
    cal (evC cprog) false 78 [eBase b, .int .i64 (k : Int), .str d, .int .i64 (m : Int)] H = some (.tup [.str (d.extract f.at'.toNat (f.at' + f.bytes).toNat), .bool true, .int .i64 0], H) := by
  rw [cal_of at78]
  have h69 := f101 b hb hv k t ht d
  rw [hf] at h69
  simp only [eBase, bEr] at h69
  have hat := aTy ht
  have haf := aFd hm
  have hml := (List.getElem?_eq_some_iff.1 hm).1
  have hfl := (sFds [] t.fields).len
  simp only [List.length_map] at hfl
  have hmin : t.min ≤ (d.size : Int) := by
    rw [fits_at (x := ⟨(k : Int), d⟩) rfl ht] at hf
    simp only [Bool.and_eq_true, decide_eq_true_eq] at hf
    exact hf.1
  have hw := wrapQ (a := f.at') (b := f.bytes) (by omega) (by omega) (by omega) (by omega)
  have k0 : ¬ (m : Int) < 0 := by omega
  have k1 : ¬ (t.fields.length : Int) ≤ (m : Int) := by omega
  have k2 : ¬ (d.size : Int) < f.at' + f.bytes := by omega
  have hsl := slcs_at d (a := f.at') (c := f.at' + f.bytes) h3 (by omega) (by omega)
  simp only [c78, eBase, h69, hat, hfl, rTy, rFd, k0, k1, k2, haf, hw, p_slcs, slcsK_some, asNat_int h3, asNat_int (show 0 ≤ f.at' + f.bytes by omega), hsl, evX, Int.reduceEq, Int.reduceLT, Int.reduceLE, Nat.reduceMul, Nat.reduceMod, evW, fn_eq, evR, Nat.reduceAdd, Nat.reduceLT, Nat.reduceLeDiff, reduceIte, Nat.reduceEqDiff, reduceCtorEq, argEnv, eq_self, if_true, if_false]
  repeat' ((first | rw [guardK_cases] | rw [condK_bool] | rw [guardD_cases]); split <;> simp only [c78, eBase, h69, hat, hfl, rTy, rFd, k0, k1, k2, haf, hw, p_slcs, slcsK_some, asNat_int h3, asNat_int (show 0 ≤ f.at' + f.bytes by omega), hsl, evX, Int.reduceEq, Int.reduceLT, Int.reduceLE, Nat.reduceMul, Nat.reduceMod, evW, evR, Nat.reduceAdd, Nat.reduceLT, Nat.reduceLeDiff, reduceIte, Nat.reduceEqDiff, reduceCtorEq, argEnv, eq_self, if_true, if_false, *])
end Go.Proofs.Ytbchmbddcdionaa.Code

/- logic: a pair of forests: keys, roots, parents, what is lost, of the program. -/
set_option linter.unusedSimpArgs false
set_option linter.unusedVariables false
namespace Go.Proofs.Ytbchmbddcdionaa.Code
open Go.Proofs.Ytbchmbddcdionaa.Ev

theorem nck_ptr (b v s i o : Nat) : nilckK (some (.ptr b v s i o)) = some (.ptr b v s i o) := rfl
structure Pr where
  a : Base
  b : Base
  l : Link
  f : List Item
  g : List Item
structure Pr.Ok (x : Pr) : Prop where
  a : x.a.Ok
  b : x.b.Ok
  va : validB x.a = true
  vb : validB x.b = true
  li : isLink x.a x.b x.l = true
  f : forestOk x.a.types x.f = true
  g : forestOk x.b.types x.g = true
def bPair (x : Pr) : Blk := ⟨0, true, 94, 13, [[.str x.a.name, .int .i64 x.a.kind, eTys x.a.types, eSes x.a.indexes, .str x.b.name, .int .i64 x.b.kind, eTys x.b.types, eSes x.b.indexes, .int .i64 x.l.child, .int .i64 x.l.field, .str x.l.rule, eItems x.f, eItems x.g]]⟩
def linkFd (a : Base) (l : Link) : Fd := match a.types[l.child.toNat]? with
  | some t => (match t.fields[l.field.toNat]? with
    | some f => f
    | none => ⟨⟨#[]⟩, 0, 0⟩)
  | none => ⟨⟨#[]⟩, 0, 0⟩
def kOf (x : Pr) (d : ByteArray) : ByteArray := d.extract (linkFd x.a x.l).at'.toNat ((linkFd x.a x.l).at' + (linkFd x.a x.l).bytes).toNat
def rootTy (b : Base) : Ty := tyOf b.types 0
def isRoot (b : Base) (key : ByteArray) (y : Item) : Bool := decide (y.type = 0) && decide (keyOf (rootTy b) y.data = key)
def rootIx (x : Pr) (key : ByteArray) : Int := idxOf (isRoot x.b key) x.g
def upI (x : Pr) (d : ByteArray) : Int := rootIx x (kOf x d)
def isLost (x : Pr) (y : Item) : Bool := decide (y.type = x.l.child) && decide (upI x y.data < 0)
def lostL (x : Pr) : List Int := gath (fun i y => if isLost x y = true then [(i : Int)] else []) 0 x.f
def agreeB (x : Pr) : Bool := decide (x.l.rule = ⟨#[76]⟩) || decide ((lostL x).length = 0)
theorem LinkAt.linkFd {a b : Base} {l : Link} {c : Nat} {t : Ty} {k : Nat} {f : Fd} (h : LinkAt a b l c t k f) : linkFd a l = f := by
  simp [Code.linkFd, h.child, h.ty, h.field, h.fld]
theorem Sits.app {H : Heap} {n : Nat} {k : Blk} (h : Sits H n k) (G : Heap) : Sits (H ++ G) n k := fun X => by rw [List.append_assoc]; exact h _
theorem forest_fits {b : Base} {f : List Item} (h : forestOk b.types f = true) : f.length ≤ 200 ∧ ∀ (i : Nat) (y : Item), f[i]? = some y → fits b.types y = true := by
  simp only [forestOk, Bool.and_eq_true, decide_eq_true_eq, tell_true] at h
  exact ⟨by omega, fun i y hy => ok_fits (h.2 i y hy)⟩
theorem fits_min {ts : List Ty} {k : Nat} {t : Ty} (ht : ts[k]? = some t) {d : ByteArray} (h : fits ts ⟨(k : Int), d⟩ = true) : t.min ≤ (d.size : Int) := by
  rw [fits_at (x := ⟨(k : Int), d⟩) rfl ht] at h
  simp only [Bool.and_eq_true, decide_eq_true_eq] at h
  exact h.1
theorem f65 (x : Pr) (h : x.Ok) (d : ByteArray) (hd : fits x.a.types ⟨x.l.child, d⟩ = true) (n : Nat) (H : Heap) (hs : Sits H n (bPair x)) : cal (evC cprog) false 65 [.ptr n 0 13 0 0, .str d] H = some (.str (kOf x d), H) := by
  rw [cal_of at65]
  obtain ⟨c, t, k, f, L⟩ := link_at h.va h.li
  rw [L.child] at hd
  have hmin := fits_min L.ty hd
  have l1 := L.at0
  have l2 := L.b1
  have l3 := L.fit
  have l4 := L.le
  have l5 := L.child
  have l6 := L.field
  have g0 := hs.at
  simp only [bPair, Sits] at hs g0
  have hat := aTy L.ty
  have haf := aFd L.fld
  have hw := wrapQ (a := f.at') (b := f.bytes) (by omega) (by omega) (by omega) (by omega)
  have hsl := slcs_at d (a := f.at') (c := f.at' + f.bytes) l1 (by omega) (by omega)
  rw [show kOf x d = d.extract f.at'.toNat (f.at' + f.bytes).toNat by unfold kOf; rw [L.linkFd]]
  simp only [c65, nck_ptr, hs, g0, l5, l6, hat, haf, rTy, rFd, hw, p_slcs, slcsK_some, asNat_int l1, asNat_int (show 0 ≤ f.at' + f.bytes by omega), hsl, evX, Int.reduceEq, Int.reduceLT, Int.reduceLE, Nat.reduceMul, Nat.reduceMod, evW, fn_eq, evR, Nat.reduceAdd, Nat.reduceLT, Nat.reduceLeDiff, reduceIte, Nat.reduceEqDiff, reduceCtorEq, argEnv, eq_self, if_true, if_false]
  repeat' ((first | rw [guardK_cases] | rw [condK_bool] | rw [guardD_cases]); split <;> simp only [c65, nck_ptr, hs, g0, l5, l6, hat, haf, rTy, rFd, hw, p_slcs, slcsK_some, asNat_int l1, asNat_int (show 0 ≤ f.at' + f.bytes by omega), hsl, evX, Int.reduceEq, Int.reduceLT, Int.reduceLE, Nat.reduceMul, Nat.reduceMod, evW, evR, Nat.reduceAdd, Nat.reduceLT, Nat.reduceLeDiff, reduceIte, Nat.reduceEqDiff, reduceCtorEq, argEnv, eq_self, if_true, if_false, *])
def bPP (n : Nat) : Blk := ⟨0, true, 61, 1, [[.ptr n 0 13 0 0]]⟩
def bKey (k : ByteArray) : Blk := ⟨0, true, 9, 1, [[.str k]]⟩
theorem f100 (x : Pr) (h : x.Ok) (key : ByteArray) (y : Item) (hy : fits x.b.types y = true) (n b1 b2 : Nat) (H : Heap) (h0 : Sits H n (bPair x)) (h1 : Sits H b1 (bPP n)) (h2 : Sits H b2 (bKey key)) :
    cal (evC cprog) false 100 [.agg (rItem y), .ptr b1 0 1 0 0, .ptr b2 0 1 0 0] H = some (.bool (isRoot x.b key y), H) := by
  rw [cal_of at100]
  have g0 := h0.at
  have g1 := h1.at
  have g2 := h2.at
  simp only [bPair, bPP, bKey, Sits] at h0 h1 h2 g0 g1 g2
  by_cases ht : y.type = 0
  · obtain ⟨r, m, k, hr, hro, _⟩ := root_at h.vb
    have h64 : ∀ H, cal (evC cprog) false 64 [eBase x.b, .int .i64 0, .str y.data] H = some (.tup [.str (keyOf r y.data), .int .i64 0], H) := fun H => f64k x.b h.b h.vb 0 r hr hro y.data (by
      rw [show (⟨((0 : Nat) : Int), y.data⟩ : Item) = y by cases y; simp_all]; exact hy) H
    simp only [eBase] at h64
    have hrt : rootTy x.b = r := tyOf_at hr
    simp only [c100, nck_ptr, rItem, ht, h0, h1, h2, g0, g1, g2, h64, evX, Int.reduceEq, Int.reduceLT, Int.reduceLE, Nat.reduceMul, Nat.reduceMod, evW, fn_eq, evR, Nat.reduceAdd, Nat.reduceLT, Nat.reduceLeDiff, reduceIte, Nat.reduceEqDiff, reduceCtorEq, argEnv, eq_self, if_true, if_false]
    repeat' ((first | rw [guardK_cases] | rw [condK_bool] | rw [guardD_cases]); split <;> simp only [c100, nck_ptr, rItem, ht, h0, h1, h2, g0, g1, g2, h64, evX, Int.reduceEq, Int.reduceLT, Int.reduceLE, Nat.reduceMul, Nat.reduceMod, evW, evR, Nat.reduceAdd, Nat.reduceLT, Nat.reduceLeDiff, reduceIte, Nat.reduceEqDiff, reduceCtorEq, argEnv, eq_self, if_true, if_false, *])
    all_goals simp [isRoot, ht, hrt, str_beq]
  · simp only [c100, nck_ptr, rItem, ht, h0, h1, h2, g0, g1, g2, evX, Int.reduceEq, Int.reduceLT, Int.reduceLE, Nat.reduceMul, Nat.reduceMod, evW, fn_eq, evR, Nat.reduceAdd, Nat.reduceLT, Nat.reduceLeDiff, reduceIte, Nat.reduceEqDiff, reduceCtorEq, argEnv, eq_self, if_true, if_false]
    repeat' ((first | rw [guardK_cases] | rw [condK_bool] | rw [guardD_cases]); split <;> simp only [c100, nck_ptr, rItem, ht, h0, h1, h2, g0, g1, g2, evX, Int.reduceEq, Int.reduceLT, Int.reduceLE, Nat.reduceMul, Nat.reduceMod, evW, evR, Nat.reduceAdd, Nat.reduceLT, Nat.reduceLeDiff, reduceIte, Nat.reduceEqDiff, reduceCtorEq, argEnv, eq_self, if_true, if_false, *])
    all_goals simp [isRoot, ht]
theorem f77 (x : Pr) (h : x.Ok) (key : ByteArray) (n : Nat) (H : Heap) (hs : Sits H n (bPair x)) : cal (evC cprog) false 77 [.ptr n 0 13 0 0, .str key] H = some (.int .i64 (rootIx x key), H) := by
  rw [cal_of at77]
  obtain ⟨hl, hf⟩ := forest_fits h.g
  have h99 := indexFunc_ok (sz := 2) (ag := true) at99 rItem (fun y => .agg (rItem y)) lItem 100 [.ptr H.length 0 1 0 0, .ptr (H.length + 1) 0 1 0 0] (isRoot x.b key) (H ++ [bPP n, bKey key]) (eItems x.g) x.g (sItems _ _) (by omega)
    fun y hy => (by
      obtain ⟨i, hi⟩ := List.getElem?_of_mem hy
      exact f100 x h key y (hf i y hi) n H.length (H.length + 1) _ (hs.app _) (.mk (by simp)) (.mk (by simp)))
  simp only [bPP, bKey] at h99
  have g0 := hs.at
  simp only [bPair, Sits] at hs g0
  simp only [c77, nck_ptr, hs, g0, h99, scal_ptr, evX, Int.reduceEq, Int.reduceLT, Int.reduceLE, Nat.reduceMul, Nat.reduceMod, evW, fn_eq, evR, Nat.reduceAdd, Nat.reduceLT, Nat.reduceLeDiff, reduceIte, Nat.reduceEqDiff, reduceCtorEq, argEnv, eq_self, if_true, if_false]
  repeat' ((first | rw [guardK_cases] | rw [condK_bool] | rw [guardD_cases]); split <;> simp only [c77, nck_ptr, hs, g0, h99, scal_ptr, evX, Int.reduceEq, Int.reduceLT, Int.reduceLE, Nat.reduceMul, Nat.reduceMod, evW, evR, Nat.reduceAdd, Nat.reduceLT, Nat.reduceLeDiff, reduceIte, Nat.reduceEqDiff, reduceCtorEq, argEnv, eq_self, if_true, if_false, *])
  all_goals rfl
theorem f52 (x : Pr) (h : x.Ok) (i : Nat) (y : Item) (hy : x.f[i]? = some y) (hc : y.type = x.l.child) (n : Nat) (H : Heap) (hs : Sits H n (bPair x)) : cal (evC cprog) false 52 [.ptr n 0 13 0 0, .int .i64 (i : Int)] H = some (.int .i64 (upI x y.data), H) := by
  rw [cal_of at52]
  obtain ⟨hl, hf⟩ := forest_fits h.f
  have h65 := f65 x h y.data (by rw [← hc]; exact hf i y hy) n H hs
  have h77 := f77 x h (kOf x y.data) n H hs
  have ha := aItem hy
  have g0 := hs.at
  simp only [bPair, Sits] at hs g0
  simp only [c52, nck_ptr, g0, h65, h77, ha, rItem, evX, Int.reduceEq, Int.reduceLT, Int.reduceLE, Nat.reduceMul, Nat.reduceMod, evW, fn_eq, evR, Nat.reduceAdd, Nat.reduceLT, Nat.reduceLeDiff, reduceIte, Nat.reduceEqDiff, reduceCtorEq, argEnv, eq_self, if_true, if_false]
  repeat' ((first | rw [guardK_cases] | rw [condK_bool] | rw [guardD_cases]); split <;> simp only [c52, nck_ptr, g0, h65, h77, ha, rItem, evX, Int.reduceEq, Int.reduceLT, Int.reduceLE, Nat.reduceMul, Nat.reduceMod, evW, evR, Nat.reduceAdd, Nat.reduceLT, Nat.reduceLeDiff, reduceIte, Nat.reduceEqDiff, reduceCtorEq, argEnv, eq_self, if_true, if_false, *])
  all_goals rfl
def isCh (x : Pr) (i : Int) : Bool := decide (0 ≤ i) && decide (i < (x.f.length : Int)) && decide (typ x.f i = x.l.child)
theorem f51 (x : Pr) (i : Int) (n : Nat) (H : Heap) (hs : Sits H n (bPair x)) : cal (evC cprog) false 51 [.ptr n 0 13 0 0, .int .i64 i] H = some (.bool (isCh x i), H) := by
  rw [cal_of at51]
  have hlen := (sItems [] x.f).len
  simp only [List.length_map] at hlen
  have g0 := hs.at
  simp only [bPair, Sits] at hs g0
  by_cases h1 : 0 ≤ i
  · by_cases h2 : i < (x.f.length : Int)
    · obtain ⟨j, rfl⟩ : ∃ j : Nat, i = (j : Int) := ⟨i.toNat, by omega⟩
      obtain ⟨y, hy⟩ : ∃ y, x.f[j]? = some y := ⟨_, List.getElem?_eq_getElem (by omega)⟩
      have ha := aItem hy
      have k1 : (0 : Int) ≤ (j : Int) := by omega
      simp only [c51, nck_ptr, g0, hlen, ha, rItem, k1, h2, evX, Int.reduceEq, Int.reduceLT, Int.reduceLE, Nat.reduceMul, Nat.reduceMod, evW, fn_eq, evR, Nat.reduceAdd, Nat.reduceLT, Nat.reduceLeDiff, reduceIte, Nat.reduceEqDiff, reduceCtorEq, argEnv, eq_self, if_true, if_false]
      repeat' ((first | rw [guardK_cases] | rw [condK_bool] | rw [guardD_cases]); split <;> simp only [c51, nck_ptr, g0, hlen, ha, rItem, k1, h2, evX, Int.reduceEq, Int.reduceLT, Int.reduceLE, Nat.reduceMul, Nat.reduceMod, evW, evR, Nat.reduceAdd, Nat.reduceLT, Nat.reduceLeDiff, reduceIte, Nat.reduceEqDiff, reduceCtorEq, argEnv, eq_self, if_true, if_false, *])
      all_goals simp_all [isCh, typ_at]
    · simp only [c51, nck_ptr, g0, hlen, h1, h2, evX, Int.reduceEq, Int.reduceLT, Int.reduceLE, Nat.reduceMul, Nat.reduceMod, evW, fn_eq, evR, Nat.reduceAdd, Nat.reduceLT, Nat.reduceLeDiff, reduceIte, Nat.reduceEqDiff, reduceCtorEq, argEnv, eq_self, if_true, if_false]
      repeat' ((first | rw [guardK_cases] | rw [condK_bool] | rw [guardD_cases]); split <;> simp only [c51, nck_ptr, g0, hlen, h1, h2, evX, Int.reduceEq, Int.reduceLT, Int.reduceLE, Nat.reduceMul, Nat.reduceMod, evW, evR, Nat.reduceAdd, Nat.reduceLT, Nat.reduceLeDiff, reduceIte, Nat.reduceEqDiff, reduceCtorEq, argEnv, eq_self, if_true, if_false, *])
      all_goals simp [isCh, h2]
  · simp only [c51, nck_ptr, g0, hlen, h1, evX, Int.reduceEq, Int.reduceLT, Int.reduceLE, Nat.reduceMul, Nat.reduceMod, evW, fn_eq, evR, Nat.reduceAdd, Nat.reduceLT, Nat.reduceLeDiff, reduceIte, Nat.reduceEqDiff, reduceCtorEq, argEnv, eq_self, if_true, if_false]
    repeat' ((first | rw [guardK_cases] | rw [condK_bool] | rw [guardD_cases]); split <;> simp only [c51, nck_ptr, g0, hlen, h1, evX, Int.reduceEq, Int.reduceLT, Int.reduceLE, Nat.reduceMul, Nat.reduceMod, evW, evR, Nat.reduceAdd, Nat.reduceLT, Nat.reduceLeDiff, reduceIte, Nat.reduceEqDiff, reduceCtorEq, argEnv, eq_self, if_true, if_false, *])
    all_goals simp [isCh, h1]
theorem isCh_at {x : Pr} {i : Nat} {y : Item} (hy : x.f[i]? = some y) : isCh x (i : Int) = decide (y.type = x.l.child) := by
  have := (List.getElem?_eq_some_iff.1 hy).1
  simp [isCh, typ_at hy]
  intro _; omega
theorem f53 (x : Pr) (h : x.Ok) (n : Nat) (H : Heap) (hs : Sits H n (bPair x)) : cal (evC cprog) true 53 [.ptr n 0 13 0 0] H = some (eIs (lostL x), H) := by
  rw [cal_of at53]
  obtain ⟨hl, hf⟩ := forest_fits h.f
  have hlen := (sItems [] x.f).len
  simp only [List.length_map] at hlen
  have g0 := hs.at
  have hs0 := hs
  simp only [bPair, Sits] at hs g0
  simp only [c53, nck_ptr, g0, hlen, evX, Int.reduceEq, Int.reduceLT, Int.reduceLE, Nat.reduceMul, Nat.reduceMod, evW, fn_eq, evR, Nat.reduceAdd, Nat.reduceLT, Nat.reduceLeDiff, reduceIte, Nat.reduceEqDiff, reduceCtorEq, argEnv, eq_self, if_true, if_false]
  repeat' ((first | rw [guardK_cases] | rw [condK_bool] | rw [guardD_cases]); split <;> simp only [c53, nck_ptr, g0, hlen, evX, Int.reduceEq, Int.reduceLT, Int.reduceLE, Nat.reduceMul, Nat.reduceMod, evW, evR, Nat.reduceAdd, Nat.reduceLT, Nat.reduceLeDiff, reduceIte, Nat.reduceEqDiff, reduceCtorEq, argEnv, eq_self, if_true, if_false, *])
  generalize hz : itLim _ _ = z
  have L := gath_rule x.f (fun i y => if isLost x y = true then [(i : Int)] else []) rI [0, 3, 9, 10] (fun i rv => [(0, .ptr n 0 13 0 0), (3, rv), (9, .int .i64 (x.f.length : Int)), (10, .int .i64 (i : Int))]) H 1 3 (evCode (evC cprog) itLim c53_l0) 0 [3] (fun rv => [(3, rv)])
    (fun i y hy E X rv hE hO => by
      have hlt : i < x.f.length := (List.getElem?_eq_some_iff.1 hy).1
      have hi : (i : Int) < (x.f.length : Int) := by omega
      have hw := wrapS hlt (by omega)
      have h51 := f51 x (i : Int) n (H ++ X) (hs0.app X)
      rw [isCh_at hy] at h51
      by_cases hc : y.type = x.l.child
      · have h52 := f52 x h i y hy hc n (H ++ X) (hs0.app X)
        rw [decide_eq_true hc] at h51
        by_cases hu : upI x y.data < 0
        · have hlost : isLost x y = true := by simp [isLost, hc, hu]
          rw [if_pos hlost]
          obtain ⟨rv', X', a1, a2, a3⟩ := app_int hO H rfl (by
            have := gath_len (fun i y => if isLost x y = true then [(i : Int)] else []) (fun i y => by split <;> simp) (x.f.take i) 0
            rw [List.length_take] at this; omega) (i : Int)
          simp only [c53_l0, hE, hi, h51, h52, hu, a1, a2, hw, evX, Int.reduceEq, Int.reduceLT, Int.reduceLE, Nat.reduceMul, Nat.reduceMod, evW, fn_eq, evR, Nat.reduceAdd, Nat.reduceLT, Nat.reduceLeDiff, reduceIte, Nat.reduceEqDiff, reduceCtorEq, argEnv, eq_self, if_true, if_false]
          repeat' ((first | rw [guardK_cases] | rw [condK_bool] | rw [guardD_cases]); split <;> simp only [c53_l0, hE, hi, h51, h52, hu, a1, a2, hw, evX, Int.reduceEq, Int.reduceLT, Int.reduceLE, Nat.reduceMul, Nat.reduceMod, evW, evR, Nat.reduceAdd, Nat.reduceLT, Nat.reduceLeDiff, reduceIte, Nat.reduceEqDiff, reduceCtorEq, argEnv, eq_self, if_true, if_false, *])
          exact ⟨_, _, _, rfl, by rfl, by simpa using a3⟩
        · have hlost : isLost x y = false := by simp [isLost, hu]
          rw [if_neg (by rw [hlost]; simp)]
          simp only [c53_l0, hE, hi, h51, h52, hu, hw, evX, Int.reduceEq, Int.reduceLT, Int.reduceLE, Nat.reduceMul, Nat.reduceMod, evW, fn_eq, evR, Nat.reduceAdd, Nat.reduceLT, Nat.reduceLeDiff, reduceIte, Nat.reduceEqDiff, reduceCtorEq, argEnv, eq_self, if_true, if_false]
          repeat' ((first | rw [guardK_cases] | rw [condK_bool] | rw [guardD_cases]); split <;> simp only [c53_l0, hE, hi, h51, h52, hu, hw, evX, Int.reduceEq, Int.reduceLT, Int.reduceLE, Nat.reduceMul, Nat.reduceMod, evW, evR, Nat.reduceAdd, Nat.reduceLT, Nat.reduceLeDiff, reduceIte, Nat.reduceEqDiff, reduceCtorEq, argEnv, eq_self, if_true, if_false, *])
          exact ⟨_, _, _, rfl, by rfl, by simpa using hO⟩
      · have hlost : isLost x y = false := by simp [isLost, hc]
        rw [decide_eq_false hc] at h51
        rw [if_neg (by rw [hlost]; simp)]
        simp only [c53_l0, hE, hi, h51, hw, evX, Int.reduceEq, Int.reduceLT, Int.reduceLE, Nat.reduceMul, Nat.reduceMod, evW, fn_eq, evR, Nat.reduceAdd, Nat.reduceLT, Nat.reduceLeDiff, reduceIte, Nat.reduceEqDiff, reduceCtorEq, argEnv, eq_self, if_true, if_false]
        repeat' ((first | rw [guardK_cases] | rw [condK_bool] | rw [guardD_cases]); split <;> simp only [c53_l0, hE, hi, h51, hw, evX, Int.reduceEq, Int.reduceLT, Int.reduceLE, Nat.reduceMul, Nat.reduceMod, evW, evR, Nat.reduceAdd, Nat.reduceLT, Nat.reduceLeDiff, reduceIte, Nat.reduceEqDiff, reduceCtorEq, argEnv, eq_self, if_true, if_false, *])
        exact ⟨_, _, _, rfl, by rfl, by simpa using hO⟩)
    (fun E X rv hE => by
      simp only [c53_l0, hE, Int.lt_irrefl, evX, Int.reduceEq, Int.reduceLT, Int.reduceLE, Nat.reduceMul, Nat.reduceMod, evW, fn_eq, evR, Nat.reduceAdd, Nat.reduceLT, Nat.reduceLeDiff, reduceIte, Nat.reduceEqDiff, reduceCtorEq, argEnv, eq_self, if_true, if_false]
      repeat' ((first | rw [guardK_cases] | rw [condK_bool] | rw [guardD_cases]); split <;> simp only [c53_l0, hE, Int.lt_irrefl, evX, Int.reduceEq, Int.reduceLT, Int.reduceLE, Nat.reduceMul, Nat.reduceMod, evW, evR, Nat.reduceAdd, Nat.reduceLT, Nat.reduceLeDiff, reduceIte, Nat.reduceEqDiff, reduceCtorEq, argEnv, eq_self, if_true, if_false, *])
      exact ⟨_, rfl, by rfl⟩) _ [] .nils (.nils ..) (by rfl) (by simp) z hz
  obtain ⟨T, X, rv, rfl, hT, hO⟩ := L
  simp only [hT, out_tup hO, evX, Int.reduceEq, Int.reduceLT, Int.reduceLE, Nat.reduceMul, Nat.reduceMod, evW, fn_eq, evR, Nat.reduceAdd, Nat.reduceLT, Nat.reduceLeDiff, reduceIte, Nat.reduceEqDiff, reduceCtorEq, argEnv, eq_self, if_true, if_false]
  repeat' ((first | rw [guardK_cases] | rw [condK_bool] | rw [guardD_cases]); split <;> simp only [hT, out_tup hO, evX, Int.reduceEq, Int.reduceLT, Int.reduceLE, Nat.reduceMul, Nat.reduceMod, evW, evR, Nat.reduceAdd, Nat.reduceLT, Nat.reduceLeDiff, reduceIte, Nat.reduceEqDiff, reduceCtorEq, argEnv, eq_self, if_true, if_false, *])
  exact frz_out hO H [] (by simp) (fz_rI _)
theorem f47 (x : Pr) (h : x.Ok) (n : Nat) (H : Heap) (hs : Sits H n (bPair x)) : cal (evC cprog) false 47 [.ptr n 0 13 0 0] H = some (.bool (agreeB x), H) := by
  rw [cal_of at47]
  have h53 := f53 x h n H hs
  have hlen := (sIs [] (lostL x)).len
  simp only [List.length_map] at hlen
  have g0 := hs.at
  simp only [bPair, Sits] at hs g0
  simp only [c47, nck_ptr, g0, h53, hlen, str_beq, evX, Int.reduceEq, Int.reduceLT, Int.reduceLE, Nat.reduceMul, Nat.reduceMod, evW, fn_eq, evR, Nat.reduceAdd, Nat.reduceLT, Nat.reduceLeDiff, reduceIte, Nat.reduceEqDiff, reduceCtorEq, argEnv, eq_self, if_true, if_false]
  repeat' ((first | rw [guardK_cases] | rw [condK_bool] | rw [guardD_cases]); split <;> simp only [c47, nck_ptr, g0, h53, hlen, str_beq, evX, Int.reduceEq, Int.reduceLT, Int.reduceLE, Nat.reduceMul, Nat.reduceMod, evW, evR, Nat.reduceAdd, Nat.reduceLT, Nat.reduceLeDiff, reduceIte, Nat.reduceEqDiff, reduceCtorEq, argEnv, eq_self, if_true, if_false, *])
  all_goals (simp_all [agreeB])
end Go.Proofs.Ytbchmbddcdionaa.Code

/- logic: the document's above and lost; what is asked of two forests. -/
set_option linter.unusedSimpArgs false
set_option linter.unusedVariables false
namespace Go.Proofs.Ytbchmbddcdionaa.Code
open Go.Proofs.Ytbchmbddcdionaa.Ev

theorem idxOf_none {α : Type} {p : α → Bool} {l : List α} (h : ∀ (i : Nat) y, l[i]? = some y → p y = false) : idxOf p l = -1 := by
  unfold idxOf
  rw [List.findIdx?_eq_none_iff.2 fun y hy => by
    obtain ⟨i, hi⟩ := List.getElem?_of_mem hy
    exact h i y hi]
theorem idxOf_first {α : Type} {p : α → Bool} : ∀ {l : List α} {i : Nat} {y : α}, l[i]? = some y → p y = true → (∀ (j : Nat) z, j < i → l[j]? = some z → p z = false) → idxOf p l = (i : Int)
  | [], i, y, h, _, _ => by simp at h
  | z :: l, 0, y, h, hp, _ => by
    simp at h; subst h
    simp [idxOf, List.findIdx?_cons, hp]
  | z :: l, i + 1, y, h, hp, hb => by
    have h0 := hb 0 z (by omega) rfl
    have ih := idxOf_first (l := l) (i := i) (by simpa using h) hp fun j u hj hu => hb (j + 1) u (by omega) (by simpa using hu)
    unfold idxOf at ih ⊢
    rw [List.findIdx?_cons, h0]
    simp only [Bool.false_eq_true, if_false]
    cases hf : l.findIdx? p with
    | none => rw [hf] at ih; simp at ih
    | some k => rw [hf] at ih; simp at ih ⊢; omega
theorem f54 (x : Pr) (h : x.Ok) (d : ByteArray) (hd : fits x.a.types ⟨x.l.child, d⟩ = true) (H : Heap) : cal (evC cprog) false 54 [eBase x.a, eBase x.b, eLink x.l, eItems x.g, .str d] H = some (.int .i64 (upI x d), H) := by
  rw [cal_of at54]
  obtain ⟨c, t, k, f, L⟩ := link_at h.va h.li
  obtain ⟨hl, hf⟩ := forest_fits h.g
  have l5 := L.child
  have l6 := L.field
  rw [l5] at hd
  have h78 := f78g x.a h.a h.va c t L.ty k f L.fld L.at0 L.b1 L.fit L.le d hd
  rw [← l5, ← l6, show d.extract f.at'.toNat (f.at' + f.bytes).toNat = kOf x d by unfold kOf; rw [L.linkFd]] at h78
  simp only [eBase] at h78
  have hlen := (sItems [] x.g).len
  simp only [List.length_map] at hlen
  simp only [c54, eBase, eLink, h78, evX, Int.reduceEq, Int.reduceLT, Int.reduceLE, Nat.reduceMul, Nat.reduceMod, evW, fn_eq, evR, Nat.reduceAdd, Nat.reduceLT, Nat.reduceLeDiff, reduceIte, Nat.reduceEqDiff, reduceCtorEq, argEnv, eq_self, if_true, if_false]
  repeat' ((first | rw [guardK_cases] | rw [condK_bool] | rw [guardD_cases]); split <;> simp only [c54, eBase, eLink, h78, evX, Int.reduceEq, Int.reduceLT, Int.reduceLE, Nat.reduceMul, Nat.reduceMod, evW, evR, Nat.reduceAdd, Nat.reduceLT, Nat.reduceLeDiff, reduceIte, Nat.reduceEqDiff, reduceCtorEq, argEnv, eq_self, if_true, if_false, *])
  generalize hz : itLim _ _ = z
  have key : ∀ (H' : Heap) (b1 : Nat), Sits H' b1 (bBase x.b) → ∀ (st : St) (G : Heap), keepEnv st.1 [3, 6, 11, 14] = [(3, eItems x.g), (6, .ptr b1 0 4 0 0), (11, .str (kOf x d)), (14, .int .i64 0)] → st.2 = H' ++ ([] ++ G) → ∀ z, itLim (evCode (evC cprog) itLim c54_l0) st = z →
      ((∀ (i : Nat) (y : Item), x.g[i]? = some y → (!isRoot x.b (kOf x d) y) = true) ∧ Lv H' [] (fun c T => c = .exit 0) z) ∨ (∃ (i : Nat) (y : Item), x.g[i]? = some y ∧ (!isRoot x.b (kOf x d) y) = false ∧ (∀ (j : Nat) (z : Item), j < i → x.g[j]? = some z → (!isRoot x.b (kOf x d) z) = true) ∧ Lv H' [] (fun c T => c = .ret ∧ get T 10 = some (.int .i64 (i : Int))) z) := by
    intro H' b1 hs st G hE hH z hz
    simp only [bBase, Sits] at hs
    refine scan_rule x.g (fun _ y => !isRoot x.b (kOf x d) y) [3, 6, 11, 14] (fun i => [(3, eItems x.g), (6, .ptr b1 0 4 0 0), (11, .str (kOf x d)), (14, .int .i64 (i : Int))]) H' [] (evCode (evC cprog) itLim c54_l0) _ (fun i _ c T => c = .ret ∧ get T 10 = some (.int .i64 (i : Int)))
      (fun i y hy E G hE => ?_)
      (fun E G hE => by
        simp only [c54_l0, hE, hlen, Int.lt_irrefl, evX, Int.reduceEq, Int.reduceLT, Int.reduceLE, Nat.reduceMul, Nat.reduceMod, evW, fn_eq, evR, Nat.reduceAdd, Nat.reduceLT, Nat.reduceLeDiff, reduceIte, Nat.reduceEqDiff, reduceCtorEq, argEnv, eq_self, if_true, if_false]
        repeat' ((first | rw [guardK_cases] | rw [condK_bool] | rw [guardD_cases]); split <;> simp only [c54_l0, hE, hlen, Int.lt_irrefl, evX, Int.reduceEq, Int.reduceLT, Int.reduceLE, Nat.reduceMul, Nat.reduceMod, evW, evR, Nat.reduceAdd, Nat.reduceLT, Nat.reduceLeDiff, reduceIte, Nat.reduceEqDiff, reduceCtorEq, argEnv, eq_self, if_true, if_false, *])
        exact .exit (K := []) rfl) st G hE hH z hz
    have hlt : i < x.g.length := (List.getElem?_eq_some_iff.1 hy).1
    have hi : (i : Int) < (x.g.length : Int) := by omega
    have hw := wrapS hlt (by omega)
    have ha := aItem hy
    have hfy := hf i y hy
    obtain ⟨m, u, hm, _, hu, _⟩ := fits_some hfy
    have h79 := f79 x.b h.b h.vb m u hu (tyOk_at (valid_tys h.vb) hu) y.data
    rw [show (⟨(m : Int), y.data⟩ : Item) = y by cases y; simp_all, if_pos hfy, ← hm] at h79
    simp only [eBase] at h79
    by_cases ht : y.type = 0
    · have hrt : rootTy x.b = u := by
        have : m = 0 := by omega
        subst this
        exact tyOf_at hu
      rw [ht] at h79
      by_cases hk : keyOf u y.data = kOf x d
      · have : isRoot x.b (kOf x d) y = true := by simp [isRoot, ht, hrt, hk]
        simp only [this]
        simp only [c54_l0, hE, hi, hlen, hs, ha, rItem, ht, h79, hk, evX, Int.reduceEq, Int.reduceLT, Int.reduceLE, Nat.reduceMul, Nat.reduceMod, evW, fn_eq, evR, Nat.reduceAdd, Nat.reduceLT, Nat.reduceLeDiff, reduceIte, Nat.reduceEqDiff, reduceCtorEq, argEnv, eq_self, if_true, if_false]
        repeat' ((first | rw [guardK_cases] | rw [condK_bool] | rw [guardD_cases]); split <;> simp only [c54_l0, hE, hi, hlen, hs, ha, rItem, ht, h79, hk, evX, Int.reduceEq, Int.reduceLT, Int.reduceLE, Nat.reduceMul, Nat.reduceMod, evW, evR, Nat.reduceAdd, Nat.reduceLT, Nat.reduceLeDiff, reduceIte, Nat.reduceEqDiff, reduceCtorEq, argEnv, eq_self, if_true, if_false, *])
        all_goals exact Sc.ret rfl ⟨rfl, rfl⟩
      · have : isRoot x.b (kOf x d) y = false := by simp [isRoot, ht, hrt, hk]
        simp only [this]
        simp only [c54_l0, hE, hi, hlen, hs, ha, rItem, ht, h79, hk, hw, evX, Int.reduceEq, Int.reduceLT, Int.reduceLE, Nat.reduceMul, Nat.reduceMod, evW, fn_eq, evR, Nat.reduceAdd, Nat.reduceLT, Nat.reduceLeDiff, reduceIte, Nat.reduceEqDiff, reduceCtorEq, argEnv, eq_self, if_true, if_false]
        repeat' ((first | rw [guardK_cases] | rw [condK_bool] | rw [guardD_cases]); split <;> simp only [c54_l0, hE, hi, hlen, hs, ha, rItem, ht, h79, hk, hw, evX, Int.reduceEq, Int.reduceLT, Int.reduceLE, Nat.reduceMul, Nat.reduceMod, evW, evR, Nat.reduceAdd, Nat.reduceLT, Nat.reduceLeDiff, reduceIte, Nat.reduceEqDiff, reduceCtorEq, argEnv, eq_self, if_true, if_false, *])
        all_goals exact Sc.next rfl (by rfl)
    · have : isRoot x.b (kOf x d) y = false := by simp [isRoot, ht]
      simp only [this]
      simp only [c54_l0, hE, hi, hlen, hs, ha, rItem, ht, h79, hw, evX, Int.reduceEq, Int.reduceLT, Int.reduceLE, Nat.reduceMul, Nat.reduceMod, evW, fn_eq, evR, Nat.reduceAdd, Nat.reduceLT, Nat.reduceLeDiff, reduceIte, Nat.reduceEqDiff, reduceCtorEq, argEnv, eq_self, if_true, if_false]
      repeat' ((first | rw [guardK_cases] | rw [condK_bool] | rw [guardD_cases]); split <;> simp only [c54_l0, hE, hi, hlen, hs, ha, rItem, ht, h79, hw, evX, Int.reduceEq, Int.reduceLT, Int.reduceLE, Nat.reduceMul, Nat.reduceMod, evW, evR, Nat.reduceAdd, Nat.reduceLT, Nat.reduceLeDiff, reduceIte, Nat.reduceEqDiff, reduceCtorEq, argEnv, eq_self, if_true, if_false, *])
      all_goals exact Sc.next rfl (by rfl)
  rcases key (H ++ [bBase x.a, bBase x.b, bLink x.l]) (H.length + 1) (.mk (by simp)) _ [] (by rfl) (by simp [bBase, bLink]) z hz with ⟨ha, c, T, G, rfl, _, rfl⟩ | ⟨i, y, hy, hn, hb, c, T, G, rfl, _, rfl, hT⟩
  · simp only [evX, Int.reduceEq, Int.reduceLT, Int.reduceLE, Nat.reduceMul, Nat.reduceMod, evW, fn_eq, evR, Nat.reduceAdd, Nat.reduceLT, Nat.reduceLeDiff, reduceIte, Nat.reduceEqDiff, reduceCtorEq, argEnv, eq_self, if_true, if_false]
    repeat' ((first | rw [guardK_cases] | rw [condK_bool] | rw [guardD_cases]); split <;> simp only [evX, Int.reduceEq, Int.reduceLT, Int.reduceLE, Nat.reduceMul, Nat.reduceMod, evW, evR, Nat.reduceAdd, Nat.reduceLT, Nat.reduceLeDiff, reduceIte, Nat.reduceEqDiff, reduceCtorEq, argEnv, eq_self, if_true, if_false, *])
    have : upI x d = -1 := idxOf_none fun i y hy => by have := ha i y hy; simpa using this
    rw [this]
  · simp only [hT, evX, Int.reduceEq, Int.reduceLT, Int.reduceLE, Nat.reduceMul, Nat.reduceMod, evW, fn_eq, evR, Nat.reduceAdd, Nat.reduceLT, Nat.reduceLeDiff, reduceIte, Nat.reduceEqDiff, reduceCtorEq, argEnv, eq_self, if_true, if_false]
    repeat' ((first | rw [guardK_cases] | rw [condK_bool] | rw [guardD_cases]); split <;> simp only [hT, evX, Int.reduceEq, Int.reduceLT, Int.reduceLE, Nat.reduceMul, Nat.reduceMod, evW, evR, Nat.reduceAdd, Nat.reduceLT, Nat.reduceLeDiff, reduceIte, Nat.reduceEqDiff, reduceCtorEq, argEnv, eq_self, if_true, if_false, *])
    have : upI x d = (i : Int) := idxOf_first hy (by simpa using hn) fun j z hj hz => by have := hb j z hj hz; simpa using this
    rw [this]
theorem f49 (x : Pr) (h : x.Ok) (H : Heap) : cal (evC cprog) true 49 [eBase x.a, eBase x.b, eLink x.l, eItems x.f, eItems x.g] H = some (eIs (lostL x), H) := by
  rw [cal_of at49]
  obtain ⟨hl, hf⟩ := forest_fits h.f
  have hlen := (sItems [] x.f).len
  simp only [List.length_map] at hlen
  simp only [c49, eBase, eLink, evX, Int.reduceEq, Int.reduceLT, Int.reduceLE, Nat.reduceMul, Nat.reduceMod, evW, fn_eq, evR, Nat.reduceAdd, Nat.reduceLT, Nat.reduceLeDiff, reduceIte, Nat.reduceEqDiff, reduceCtorEq, argEnv, eq_self, if_true, if_false]
  repeat' ((first | rw [guardK_cases] | rw [condK_bool] | rw [guardD_cases]); split <;> simp only [c49, eBase, eLink, evX, Int.reduceEq, Int.reduceLT, Int.reduceLE, Nat.reduceMul, Nat.reduceMod, evW, evR, Nat.reduceAdd, Nat.reduceLT, Nat.reduceLeDiff, reduceIte, Nat.reduceEqDiff, reduceCtorEq, argEnv, eq_self, if_true, if_false, *])
  generalize hz : itLim _ _ = z
  have key : ∀ (H' : Heap) (n : Nat), Sits H' n (bBase x.a) → Sits H' (n + 1) (bBase x.b) → Sits H' (n + 2) (bLink x.l) → ∀ (st : St), keepEnv st.1 [3, 4, 5, 6, 7, 11, 12] = [(3, eItems x.f), (4, eItems x.g), (5, .ptr n 0 4 0 0), (6, .ptr (n + 1) 0 4 0 0), (7, .ptr (n + 2) 0 3 0 0), (11, .nils), (12, .int .i64 0)] → st.2 = H' ++ [] → ∀ z, itLim (evCode (evC cprog) itLim c49_l0) st = z →
      ∃ T X rv, z = some (.exit 0, T, H' ++ X) ∧ keepEnv T [11] = [(11, rv)] ∧ Out H'.length 1 3 X rv ((lostL x).map rI) := by
    intro H' n h1 h2 h3 st hE hH z hz
    simp only [bBase, bLink, Sits] at h1 h2 h3
    refine gath_rule x.f (fun i y => if isLost x y = true then [(i : Int)] else []) rI [3, 4, 5, 6, 7, 11, 12] (fun i rv => [(3, eItems x.f), (4, eItems x.g), (5, .ptr n 0 4 0 0), (6, .ptr (n + 1) 0 4 0 0), (7, .ptr (n + 2) 0 3 0 0), (11, rv), (12, .int .i64 (i : Int))]) H' 1 3 (evCode (evC cprog) itLim c49_l0) 0 [11] (fun rv => [(11, rv)])
      (fun i y hy E X rv hE hO => ?_)
      (fun E X rv hE => by
        simp only [c49_l0, hE, hlen, Int.lt_irrefl, evX, Int.reduceEq, Int.reduceLT, Int.reduceLE, Nat.reduceMul, Nat.reduceMod, evW, fn_eq, evR, Nat.reduceAdd, Nat.reduceLT, Nat.reduceLeDiff, reduceIte, Nat.reduceEqDiff, reduceCtorEq, argEnv, eq_self, if_true, if_false]
        repeat' ((first | rw [guardK_cases] | rw [condK_bool] | rw [guardD_cases]); split <;> simp only [c49_l0, hE, hlen, Int.lt_irrefl, evX, Int.reduceEq, Int.reduceLT, Int.reduceLE, Nat.reduceMul, Nat.reduceMod, evW, evR, Nat.reduceAdd, Nat.reduceLT, Nat.reduceLeDiff, reduceIte, Nat.reduceEqDiff, reduceCtorEq, argEnv, eq_self, if_true, if_false, *])
        exact ⟨_, rfl, by rfl⟩) st [] .nils (.nils ..) hE hH z hz
    have hlt : i < x.f.length := (List.getElem?_eq_some_iff.1 hy).1
    have hi : (i : Int) < (x.f.length : Int) := by omega
    have hw := wrapS hlt (by omega)
    have ha := aItem hy
    by_cases hc : y.type = x.l.child
    · have h54 := f54 x h y.data (by rw [← hc]; exact hf i y hy)
      simp only [eBase, eLink] at h54
      by_cases hu : upI x y.data < 0
      · have hlost : isLost x y = true := by simp [isLost, hc, hu]
        rw [if_pos hlost]
        obtain ⟨rv', X', a1, a2, a3⟩ := app_int hO H' rfl (by
          have := gath_len (fun i y => if isLost x y = true then [(i : Int)] else []) (fun i y => by split <;> simp) (x.f.take i) 0
          rw [List.length_take] at this; omega) (i : Int)
        simp only [c49_l0, hE, hi, hlen, h1, h2, h3, ha, rItem, hc, h54, hu, a1, a2, hw, evX, Int.reduceEq, Int.reduceLT, Int.reduceLE, Nat.reduceMul, Nat.reduceMod, evW, fn_eq, evR, Nat.reduceAdd, Nat.reduceLT, Nat.reduceLeDiff, reduceIte, Nat.reduceEqDiff, reduceCtorEq, argEnv, eq_self, if_true, if_false]
        repeat' ((first | rw [guardK_cases] | rw [condK_bool] | rw [guardD_cases]); split <;> simp only [c49_l0, hE, hi, hlen, h1, h2, h3, ha, rItem, hc, h54, hu, a1, a2, hw, evX, Int.reduceEq, Int.reduceLT, Int.reduceLE, Nat.reduceMul, Nat.reduceMod, evW, evR, Nat.reduceAdd, Nat.reduceLT, Nat.reduceLeDiff, reduceIte, Nat.reduceEqDiff, reduceCtorEq, argEnv, eq_self, if_true, if_false, *])
        exact ⟨_, _, _, rfl, by rfl, by simpa using a3⟩
      · have hlost : isLost x y = false := by simp [isLost, hu]
        rw [if_neg (by rw [hlost]; simp)]
        simp only [c49_l0, hE, hi, hlen, h1, h2, h3, ha, rItem, hc, h54, hu, hw, evX, Int.reduceEq, Int.reduceLT, Int.reduceLE, Nat.reduceMul, Nat.reduceMod, evW, fn_eq, evR, Nat.reduceAdd, Nat.reduceLT, Nat.reduceLeDiff, reduceIte, Nat.reduceEqDiff, reduceCtorEq, argEnv, eq_self, if_true, if_false]
        repeat' ((first | rw [guardK_cases] | rw [condK_bool] | rw [guardD_cases]); split <;> simp only [c49_l0, hE, hi, hlen, h1, h2, h3, ha, rItem, hc, h54, hu, hw, evX, Int.reduceEq, Int.reduceLT, Int.reduceLE, Nat.reduceMul, Nat.reduceMod, evW, evR, Nat.reduceAdd, Nat.reduceLT, Nat.reduceLeDiff, reduceIte, Nat.reduceEqDiff, reduceCtorEq, argEnv, eq_self, if_true, if_false, *])
        exact ⟨_, _, _, rfl, by rfl, by simpa using hO⟩
    · have hlost : isLost x y = false := by simp [isLost, hc]
      rw [if_neg (by rw [hlost]; simp)]
      simp only [c49_l0, hE, hi, hlen, h1, h2, h3, ha, rItem, hc, hw, evX, Int.reduceEq, Int.reduceLT, Int.reduceLE, Nat.reduceMul, Nat.reduceMod, evW, fn_eq, evR, Nat.reduceAdd, Nat.reduceLT, Nat.reduceLeDiff, reduceIte, Nat.reduceEqDiff, reduceCtorEq, argEnv, eq_self, if_true, if_false]
      repeat' ((first | rw [guardK_cases] | rw [condK_bool] | rw [guardD_cases]); split <;> simp only [c49_l0, hE, hi, hlen, h1, h2, h3, ha, rItem, hc, hw, evX, Int.reduceEq, Int.reduceLT, Int.reduceLE, Nat.reduceMul, Nat.reduceMod, evW, evR, Nat.reduceAdd, Nat.reduceLT, Nat.reduceLeDiff, reduceIte, Nat.reduceEqDiff, reduceCtorEq, argEnv, eq_self, if_true, if_false, *])
      exact ⟨_, _, _, rfl, by rfl, by simpa using hO⟩
  obtain ⟨T, X, rv, rfl, hT, hO⟩ := key (H ++ [bBase x.a, bBase x.b, bLink x.l]) H.length (.mk (by simp)) (.mk (by simp)) (.mk (by simp)) _ (by rfl) (by simp [bBase, bLink]) z hz
  simp only [hT, out_tup hO, evX, Int.reduceEq, Int.reduceLT, Int.reduceLE, Nat.reduceMul, Nat.reduceMod, evW, fn_eq, evR, Nat.reduceAdd, Nat.reduceLT, Nat.reduceLeDiff, reduceIte, Nat.reduceEqDiff, reduceCtorEq, argEnv, eq_self, if_true, if_false]
  repeat' ((first | rw [guardK_cases] | rw [condK_bool] | rw [guardD_cases]); split <;> simp only [hT, out_tup hO, evX, Int.reduceEq, Int.reduceLT, Int.reduceLE, Nat.reduceMul, Nat.reduceMod, evW, evR, Nat.reduceAdd, Nat.reduceLT, Nat.reduceLeDiff, reduceIte, Nat.reduceEqDiff, reduceCtorEq, argEnv, eq_self, if_true, if_false, *])
  exact frz_out hO H [bBase x.a, bBase x.b, bLink x.l] (by simp) (fz_rI _)
structure Pr.Raw (x : Pr) : Prop where
  a : x.a.Ok
  b : x.b.Ok
  f : x.f.length < 9223372036854775807
  g : x.g.length < 9223372036854775807
noncomputable def openE (x : Pr) : Int := if (validB x.a && validB x.b) = true then (if isLink x.a x.b x.l = true then (if (forestOk x.a.types x.f && forestOk x.b.types x.g) = true then 0 else 120) else 180) else 100
noncomputable def askE (x : Pr) : Int := if openE x = 0 then (if agreeB x = true then 0 else 120) else openE x
theorem open_ok {x : Pr} (hr : x.Raw) (h : openE x = 0) : x.Ok := by
  unfold openE at h
  split at h
  · rename_i hv
    split at h
    · rename_i hl
      split at h
      · rename_i hf
        simp only [Bool.and_eq_true] at hv hf
        exact ⟨hr.a, hr.b, hv.1, hv.2, hl, hf.1, hf.2⟩
      · cases h
    · cases h
  · cases h
theorem nil_slat (H : Heap) : SlAt H 1 .nils (([] : List Int).map rI) := out_slat (.nils 0 1 3 H) [] rfl (by simp)
theorem errF_nil {b : Base} {f : List Item} (hv : validB b = true) : errF b f [] = if forestOk b.types f = true then 0 else 120 := by
  unfold errF
  rw [if_pos hv]
  simp
theorem f48 (x : Pr) (h : x.Raw) (H : Heap) : cal (evC cprog) false 48 [eBase x.a, eBase x.b, eLink x.l, eItems x.f, eItems x.g] H = some (.int .i64 (openE x), H) := by
  rw [cal_of at48]
  have h1 := f44 x.a h.a
  have h2 := f44 x.b h.b
  simp only [eBase] at h1 h2
  cases va : validB x.a with
  | false =>
    simp only [c48, eBase, eLink, h1, va, evX, Int.reduceEq, Int.reduceLT, Int.reduceLE, Nat.reduceMul, Nat.reduceMod, evW, fn_eq, evR, Nat.reduceAdd, Nat.reduceLT, Nat.reduceLeDiff, reduceIte, Nat.reduceEqDiff, reduceCtorEq, argEnv, eq_self, if_true, if_false]
    repeat' ((first | rw [guardK_cases] | rw [condK_bool] | rw [guardD_cases]); split <;> simp only [c48, eBase, eLink, h1, va, evX, Int.reduceEq, Int.reduceLT, Int.reduceLE, Nat.reduceMul, Nat.reduceMod, evW, evR, Nat.reduceAdd, Nat.reduceLT, Nat.reduceLeDiff, reduceIte, Nat.reduceEqDiff, reduceCtorEq, argEnv, eq_self, if_true, if_false, *])
    simp [openE, va]
  | true =>
    cases vb : validB x.b with
    | false =>
      simp only [c48, eBase, eLink, h1, h2, va, vb, evX, Int.reduceEq, Int.reduceLT, Int.reduceLE, Nat.reduceMul, Nat.reduceMod, evW, fn_eq, evR, Nat.reduceAdd, Nat.reduceLT, Nat.reduceLeDiff, reduceIte, Nat.reduceEqDiff, reduceCtorEq, argEnv, eq_self, if_true, if_false]
      repeat' ((first | rw [guardK_cases] | rw [condK_bool] | rw [guardD_cases]); split <;> simp only [c48, eBase, eLink, h1, h2, va, vb, evX, Int.reduceEq, Int.reduceLT, Int.reduceLE, Nat.reduceMul, Nat.reduceMod, evW, evR, Nat.reduceAdd, Nat.reduceLT, Nat.reduceLeDiff, reduceIte, Nat.reduceEqDiff, reduceCtorEq, argEnv, eq_self, if_true, if_false, *])
      simp [openE, vb]
    | true =>
      have h3 := f45 va vb x.l
      simp only [eBase, eLink] at h3
      cases hl : isLink x.a x.b x.l with
      | false =>
        simp only [c48, eBase, eLink, h1, h2, h3, va, vb, hl, evX, Int.reduceEq, Int.reduceLT, Int.reduceLE, Nat.reduceMul, Nat.reduceMod, evW, fn_eq, evR, Nat.reduceAdd, Nat.reduceLT, Nat.reduceLeDiff, reduceIte, Nat.reduceEqDiff, reduceCtorEq, argEnv, eq_self, if_true, if_false]
        repeat' ((first | rw [guardK_cases] | rw [condK_bool] | rw [guardD_cases]); split <;> simp only [c48, eBase, eLink, h1, h2, h3, va, vb, hl, evX, Int.reduceEq, Int.reduceLT, Int.reduceLE, Nat.reduceMul, Nat.reduceMod, evW, evR, Nat.reduceAdd, Nat.reduceLT, Nat.reduceLeDiff, reduceIte, Nat.reduceEqDiff, reduceCtorEq, argEnv, eq_self, if_true, if_false, *])
        simp [openE, va, vb, hl]
      | true =>
        have h4 := fun H => f67 x.a h.a x.f h.f .nils [] (by simp) H (nil_slat H)
        have h5 := fun H => f67 x.b h.b x.g h.g .nils [] (by simp) H (nil_slat H)
        simp only [eBase, errF_nil va, errF_nil vb] at h4 h5
        cases hf : forestOk x.a.types x.f with
        | false =>
          simp only [hf, Bool.false_eq_true, if_false] at h4
          simp only [c48, eBase, eLink, h1, h2, h3, h4, va, vb, hl, evX, Int.reduceEq, Int.reduceLT, Int.reduceLE, Nat.reduceMul, Nat.reduceMod, evW, fn_eq, evR, Nat.reduceAdd, Nat.reduceLT, Nat.reduceLeDiff, reduceIte, Nat.reduceEqDiff, reduceCtorEq, argEnv, eq_self, if_true, if_false]
          repeat' ((first | rw [guardK_cases] | rw [condK_bool] | rw [guardD_cases]); split <;> simp only [c48, eBase, eLink, h1, h2, h3, h4, va, vb, hl, evX, Int.reduceEq, Int.reduceLT, Int.reduceLE, Nat.reduceMul, Nat.reduceMod, evW, evR, Nat.reduceAdd, Nat.reduceLT, Nat.reduceLeDiff, reduceIte, Nat.reduceEqDiff, reduceCtorEq, argEnv, eq_self, if_true, if_false, *])
          simp [openE, va, vb, hl, hf]
        | true =>
          simp only [hf, if_true] at h4
          cases hg : forestOk x.b.types x.g with
          | false =>
            simp only [hg, Bool.false_eq_true, if_false] at h5
            simp only [c48, eBase, eLink, h1, h2, h3, h4, h5, va, vb, hl, evX, Int.reduceEq, Int.reduceLT, Int.reduceLE, Nat.reduceMul, Nat.reduceMod, evW, fn_eq, evR, Nat.reduceAdd, Nat.reduceLT, Nat.reduceLeDiff, reduceIte, Nat.reduceEqDiff, reduceCtorEq, argEnv, eq_self, if_true, if_false]
            repeat' ((first | rw [guardK_cases] | rw [condK_bool] | rw [guardD_cases]); split <;> simp only [c48, eBase, eLink, h1, h2, h3, h4, h5, va, vb, hl, evX, Int.reduceEq, Int.reduceLT, Int.reduceLE, Nat.reduceMul, Nat.reduceMod, evW, evR, Nat.reduceAdd, Nat.reduceLT, Nat.reduceLeDiff, reduceIte, Nat.reduceEqDiff, reduceCtorEq, argEnv, eq_self, if_true, if_false, *])
            simp [openE, va, vb, hl, hf, hg]
          | true =>
            simp only [hg, if_true] at h5
            simp only [c48, eBase, eLink, h1, h2, h3, h4, h5, va, vb, hl, evX, Int.reduceEq, Int.reduceLT, Int.reduceLE, Nat.reduceMul, Nat.reduceMod, evW, fn_eq, evR, Nat.reduceAdd, Nat.reduceLT, Nat.reduceLeDiff, reduceIte, Nat.reduceEqDiff, reduceCtorEq, argEnv, eq_self, if_true, if_false]
            repeat' ((first | rw [guardK_cases] | rw [condK_bool] | rw [guardD_cases]); split <;> simp only [c48, eBase, eLink, h1, h2, h3, h4, h5, va, vb, hl, evX, Int.reduceEq, Int.reduceLT, Int.reduceLE, Nat.reduceMul, Nat.reduceMod, evW, evR, Nat.reduceAdd, Nat.reduceLT, Nat.reduceLeDiff, reduceIte, Nat.reduceEqDiff, reduceCtorEq, argEnv, eq_self, if_true, if_false, *])
            simp [openE, va, vb, hl, hf, hg]
theorem f18 (x : Pr) (h : x.Raw) (H : Heap) : cal (evC cprog) false 18 [eBase x.a, eBase x.b, eLink x.l, eItems x.f, eItems x.g] H = some (.int .i64 (askE x), H) := by
  rw [cal_of at18]
  have h48 := f48 x h
  simp only [eBase, eLink] at h48
  by_cases h0 : openE x = 0
  · have h49 := f49 x (open_ok h h0)
    have hlen := (sIs [] (lostL x)).len
    simp only [List.length_map] at hlen
    simp only [eBase, eLink] at h49
    rw [h0] at h48
    unfold askE
    rw [if_pos h0]
    by_cases hr : x.l.rule = ⟨#[76]⟩
    · simp only [hr] at h48
      simp only [c18, eBase, eLink, h48, hr, evX, Int.reduceEq, Int.reduceLT, Int.reduceLE, Nat.reduceMul, Nat.reduceMod, evW, fn_eq, evR, Nat.reduceAdd, Nat.reduceLT, Nat.reduceLeDiff, reduceIte, Nat.reduceEqDiff, reduceCtorEq, argEnv, eq_self, if_true, if_false]
      repeat' ((first | rw [guardK_cases] | rw [condK_bool] | rw [guardD_cases]); split <;> simp only [c18, eBase, eLink, h48, hr, evX, Int.reduceEq, Int.reduceLT, Int.reduceLE, Nat.reduceMul, Nat.reduceMod, evW, evR, Nat.reduceAdd, Nat.reduceLT, Nat.reduceLeDiff, reduceIte, Nat.reduceEqDiff, reduceCtorEq, argEnv, eq_self, if_true, if_false, *])
      all_goals simp [agreeB, hr]
    · by_cases hn : (lostL x).length = 0
      · have hn' : ¬ (0 : Int) < ((lostL x).length : Int) := by omega
        simp only [c18, eBase, eLink, h48, hr, h49, hlen, hn', evX, Int.reduceEq, Int.reduceLT, Int.reduceLE, Nat.reduceMul, Nat.reduceMod, evW, fn_eq, evR, Nat.reduceAdd, Nat.reduceLT, Nat.reduceLeDiff, reduceIte, Nat.reduceEqDiff, reduceCtorEq, argEnv, eq_self, if_true, if_false]
        repeat' ((first | rw [guardK_cases] | rw [condK_bool] | rw [guardD_cases]); split <;> simp only [c18, eBase, eLink, h48, hr, h49, hlen, hn', evX, Int.reduceEq, Int.reduceLT, Int.reduceLE, Nat.reduceMul, Nat.reduceMod, evW, evR, Nat.reduceAdd, Nat.reduceLT, Nat.reduceLeDiff, reduceIte, Nat.reduceEqDiff, reduceCtorEq, argEnv, eq_self, if_true, if_false, *])
        all_goals simp [agreeB, hn]
      · have hn' : (0 : Int) < ((lostL x).length : Int) := by omega
        simp only [c18, eBase, eLink, h48, hr, h49, hlen, hn', evX, Int.reduceEq, Int.reduceLT, Int.reduceLE, Nat.reduceMul, Nat.reduceMod, evW, fn_eq, evR, Nat.reduceAdd, Nat.reduceLT, Nat.reduceLeDiff, reduceIte, Nat.reduceEqDiff, reduceCtorEq, argEnv, eq_self, if_true, if_false]
        repeat' ((first | rw [guardK_cases] | rw [condK_bool] | rw [guardD_cases]); split <;> simp only [c18, eBase, eLink, h48, hr, h49, hlen, hn', evX, Int.reduceEq, Int.reduceLT, Int.reduceLE, Nat.reduceMul, Nat.reduceMod, evW, evR, Nat.reduceAdd, Nat.reduceLT, Nat.reduceLeDiff, reduceIte, Nat.reduceEqDiff, reduceCtorEq, argEnv, eq_self, if_true, if_false, *])
        all_goals simp [agreeB, hr, hn]
  · unfold askE
    rw [if_neg h0]
    simp only [c18, eBase, eLink, h48, h0, evX, Int.reduceEq, Int.reduceLT, Int.reduceLE, Nat.reduceMul, Nat.reduceMod, evW, fn_eq, evR, Nat.reduceAdd, Nat.reduceLT, Nat.reduceLeDiff, reduceIte, Nat.reduceEqDiff, reduceCtorEq, argEnv, eq_self, if_true, if_false]
    repeat' ((first | rw [guardK_cases] | rw [condK_bool] | rw [guardD_cases]); split <;> simp only [c18, eBase, eLink, h48, h0, evX, Int.reduceEq, Int.reduceLT, Int.reduceLE, Nat.reduceMul, Nat.reduceMod, evW, evR, Nat.reduceAdd, Nat.reduceLT, Nat.reduceLeDiff, reduceIte, Nat.reduceEqDiff, reduceCtorEq, argEnv, eq_self, if_true, if_false, *])
end Go.Proofs.Ytbchmbddcdionaa.Code

/- logic: roots have keys of their own. -/
set_option linter.unusedSimpArgs false
set_option linter.unusedVariables false
namespace Go.Proofs.Ytbchmbddcdionaa.Code
open Go.Proofs.Ytbchmbddcdionaa.Ev

theorem less_trans : ∀ x y z : List UInt8, Op.bytesLess x y = true → Op.bytesLess y z = true → Op.bytesLess x z = true
  | x, y, [], _, h2 => by cases y <;> simp [Op.bytesLess] at h2
  | [], _, c :: z, _, _ => by simp [Op.bytesLess]
  | a :: x, [], c :: z, h1, _ => by simp [Op.bytesLess] at h1
  | a :: x, b :: y, c :: z, h1, h2 => by
    simp only [Op.bytesLess, Bool.or_eq_true, decide_eq_true_eq, Bool.and_eq_true, beq_iff_eq] at h1 h2 ⊢
    rcases h1 with h1 | ⟨rfl, h1⟩ <;> rcases h2 with h2 | ⟨rfl, h2⟩
    · exact .inl (by rw [UInt8.lt_iff_toNat_lt] at *; omega)
    · exact .inl h1
    · exact .inl h2
    · exact .inr ⟨rfl, less_trans x y z h1 h2⟩
theorem inOrd_trans {t : Ty} {a c d : ByteArray} (h1 : inOrd t a c = true) (h2 : inOrd t c d = true) : inOrd t a d = true := by
  simp only [inOrd, Bool.or_eq_true, decide_eq_true_eq, Bool.and_eq_true] at *
  rcases h1 with (h1 | h1) | ⟨h1, h1'⟩
  · exact .inl (.inl h1)
  · rcases h2 with (h2 | h2) | ⟨h2, _⟩
    · exact .inl (.inl h2)
    · exact .inl (.inr (less_trans _ _ _ h1 h2))
    · rw [← h2]; exact .inl (.inr h1)
  · rcases h2 with (h2 | h2) | ⟨h2, h2'⟩
    · exact .inl (.inl h2)
    · rw [h1]; exact .inl (.inr h2)
    · exact .inr ⟨h1.trans h2, h1'⟩
theorem ord_trans {ts : List Ty} {f : List Item} {c : Int} {j : Nat} {y x : Item} (hy : f[j]? = some y) (h1 : ordOk ts f c y = true) (h2 : ordOk ts f (j : Int) x = true) : ordOk ts f c x = true := by
  simp only [ordOk, Bool.or_eq_true, decide_eq_true_eq, Bool.and_eq_true, typ_at hy, dat_at hy] at *
  rcases h1 with h1 | ⟨h1, h1'⟩ <;> rcases h2 with h2 | ⟨h2, h2'⟩
  · exact .inl (by omega)
  · exact .inl (by omega)
  · exact .inl (by omega)
  · exact .inr ⟨by omega, by rw [h2] at h1'; exact inOrd_trans h1' h2'⟩
/-- the child of an item's parent on an earlier way may stand ahead of it -/
theorem sib_far {b : Base} {f : List Item} (h : Right b f) {i : Nat} {x : Item} (hx : f[i]? = some x) : ∀ (n j : Nat), i - 1 - j = n → j < i → (par b.types f i < 0 ∨ par b.types f i ∈ pth b.types f j) → ∀ c, (pth b.types f j)[nOf b.types f i]? = some c → ordOk b.types f c x = true := by
  have hi := (List.getElem?_eq_some_iff.1 hx).1
  have hok := h.ok i x hi hx
  intro n
  induction n with
  | zero =>
    intro j hn hj _ c hc
    obtain ⟨i, rfl⟩ : ∃ i', i = i' + 1 := ⟨i - 1, by omega⟩
    obtain rfl : j = i := by omega
    simp only [okAt, Bool.and_eq_true] at hok
    have := hok.2
    have hw : (way b.types f (j + 1))[nOf b.types f (j + 1)]? = some c := hc
    simpa only [sibOk, hw] using this
  | succ n ih =>
    intro j hn hj hp c hc
    have hj1 : j + 1 < f.length := by omega
    obtain ⟨y, hy⟩ : ∃ y, f[j + 1]? = some y := ⟨_, List.getElem?_eq_getElem hj1⟩
    obtain ⟨hcut, hle⟩ := way_cut h hj1
    change pth b.types f (j + 1) = (pth b.types f j).take _ ++ _ at hcut
    change _ ≤ (pth b.types f j).length at hle
    have hb := par_lt b.types f i
    -- the parent is on the next way too
    have hp' : par b.types f i < 0 ∨ par b.types f i ∈ pth b.types f (j + 1) := by
      rcases hp with hp | hp
      · exact .inl hp
      · by_cases h0 : par b.types f i < 0
        · exact .inl h0
        · have hbp := pth_bound hp
          have hm := ok_par hx hok (by omega)
          obtain ⟨i', rfl⟩ : ∃ i', i = i' + 1 := ⟨i - 1, by omega⟩
          exact .inr (way_between (Nat.le_refl _) h.ok i' (by omega) _ hm (j + 1) (by omega) (by omega))
    have hS := ih (j + 1) (by omega) (by omega) hp'
    rcases Nat.lt_trichotomy (nOf b.types f i) (nOf b.types f (j + 1)) with hlt | heq | hgt
    · refine hS c ?_
      rw [hcut, List.getElem?_append_left (by rw [List.length_take]; omega), List.getElem?_take, if_pos hlt]; exact hc
    · have h1 : ordOk b.types f ((j + 1 : Nat) : Int) x = true := hS _ (by
        rw [hcut, List.getElem?_append_right (by rw [List.length_take]; omega), List.length_take, Nat.min_eq_left hle, heq]; simp)
      have h2 := h.ok (j + 1) y hj1 hy
      simp only [okAt, Bool.and_eq_true] at h2
      have h3 := h2.2
      have hw : (way b.types f (j + 1))[nOf b.types f (j + 1)]? = some c := by rw [← heq]; exact hc
      simp only [sibOk, hw] at h3
      exact ord_trans hy h3 h1
    · exfalso
      rcases hp' with h0 | hm
      · have : nOf b.types f i = 0 := by unfold nOf; rw [pthI_neg _ _ h0]; rfl
        omega
      · have hbp := pth_bound hm
        rcases hp with hp | hp
        · omega
        have hbj := pth_bound hp
        obtain ⟨q, hq⟩ : ∃ q : Nat, par b.types f i = (q : Int) := ⟨(par b.types f i).toNat, by omega⟩
        have hno : nOf b.types f i = (pth b.types f q).length := by unfold nOf; rw [hq, pthI_nat]
        rw [hq] at hm
        obtain ⟨m, hmm⟩ := List.getElem?_of_mem hm
        have ht : (pth b.types f (j + 1)).take (m + 1) = pth b.types f q := take_anc (pts b.types f) (good_pts b.types f) (by rw [pts_len]; exact Nat.le_refl _) (j + 1) (j + 1) (Nat.le_refl _) (by omega) m _ hmm
        have hml := (List.getElem?_eq_some_iff.1 hmm).1
        have hmn : (pth b.types f q).length = m + 1 := by rw [← ht, List.length_take]; omega
        rw [hcut] at hml hmm
        simp only [List.length_append, List.length_take, Nat.min_eq_left hle, List.length_singleton] at hml
        have e : m = nOf b.types f (j + 1) := by omega
        rw [List.getElem?_append_right (by rw [List.length_take]; omega), List.length_take, Nat.min_eq_left hle, e] at hmm
        simp at hmm
        omega
theorem root_uniq {b : Base} (h : validB b = true) : ∃ r, b.types[0]? = some r ∧ 0 ≤ r.key ∧ r.unique = true := by
  have ht := valid_tys h
  simp only [validB, areTys, Bool.and_eq_true, decide_eq_true_eq] at h
  obtain ⟨r, hr⟩ : ∃ r, b.types[0]? = some r := ⟨_, List.getElem?_eq_getElem (by omega)⟩
  have h1 := tell_true.1 ht 0 r hr
  simp only [tyAt, Bool.and_eq_true, if_true, rootOk, decide_eq_true_eq] at h1
  exact ⟨r, hr, h1.1.2.1.1.2, h1.1.2.1.2⟩
/-- two roots have two keys -/
theorem roots_apart {b : Base} {f : List Item} (h : Right b f) {i j : Nat} {x y : Item} (hx : f[i]? = some x) (hy : f[j]? = some y) (tx : x.type = 0) (ty : y.type = 0) (hk : keyOf (rootTy b) x.data = keyOf (rootTy b) y.data) : i = j := by
  have key : ∀ (i j : Nat) (x y : Item), f[i]? = some x → f[j]? = some y → x.type = 0 → y.type = 0 → keyOf (rootTy b) x.data = keyOf (rootTy b) y.data → ¬ j < i := by
    intro i j x y hx hy tx ty hk hlt
    obtain ⟨r, hr, hr0, hru⟩ := root_uniq h.valid
    have hrt : rootTy b = r := tyOf_at hr
    have hpar : ∀ k z, f[k]? = some z → z.type = 0 → par b.types f k < 0 := by
      intro k z hz tz
      unfold par
      rw [typ_at hz, tz]
      have hp : tpar b.types 0 = r.parent := tpar_at hr
      have := (tys_root (valid_tys h.valid) hr).2 rfl
      rw [hp, if_pos this]; omega
    have hpi := hpar i x hx tx
    have hpj := hpar j y hy ty
    have hn : nOf b.types f i = 0 := by
      unfold nOf
      rw [pthI, ancI_neg _ hpi]; rfl
    have hjl := (List.getElem?_eq_some_iff.1 hy).1
    have hpth : pth b.types f j = [(j : Int)] := by
      rw [pth_eq b.types f hjl, pthI, ancI_neg _ hpj]; rfl
    have hs := sib_far h hx (i - 1 - j) j rfl hlt (.inl hpi) (j : Int) (by rw [hn, hpth]; rfl)
    unfold ordOk at hs
    rw [typ_at hy, dat_at hy, tx, ty, show tyOf b.types 0 = r from tyOf_at hr] at hs
    rw [hrt] at hk
    simp only [inOrd, hk, hru, Int.lt_irrefl, decide_false, Bool.false_or, decide_true, Bool.true_and, Bool.not_true, Bool.and_false, Bool.or_false, Bool.or_eq_true, decide_eq_true_eq] at hs
    rcases hs with hs | hs
    · omega
    · rw [bLt_irrefl] at hs; cases hs
  rcases Nat.lt_trichotomy i j with hij | hij | hij
  · exact absurd hij (key j i y x hy hx ty tx hk.symm)
  · exact hij
  · exact absurd hij (key i j x y hx hy tx ty hk)
end Go.Proofs.Ytbchmbddcdionaa.Code

/- logic: pairs opened; children. -/
set_option linter.unusedSimpArgs false
set_option linter.unusedVariables false
namespace Go.Proofs.Ytbchmbddcdionaa.Code
open Go.Proofs.Ytbchmbddcdionaa.Ev

theorem nr1_ptr (b v s i o : Nat) : noRef1 (.ptr b v s i o) = false := rfl
theorem f46_err (x : Pr) (h : x.Raw) (he : openE x ≠ 0) (H : Heap) : cal (evC cprog) false 46 [eBase x.a, eBase x.b, eLink x.l, eItems x.f, eItems x.g] H = some (.tup [.nilptr, .int .i64 (openE x)], H) := by
  rw [cal_of at46]
  have h14 := f14 x.a x.b h.a h.b x.l
  have h1 := f76 x.a h.a x.f
  have h2 := f76 x.b h.b x.g
  simp only [eBase, eLink, bEr] at h14 h1 h2
  cases va : validB x.a with
  | false =>
    simp only [va, Bool.false_and, Bool.false_eq_true, if_false] at h14
    simp only [c46, eBase, eLink, h14, evX, Int.reduceEq, Int.reduceLT, Int.reduceLE, Nat.reduceMul, Nat.reduceMod, evW, fn_eq, evR, Nat.reduceAdd, Nat.reduceLT, Nat.reduceLeDiff, reduceIte, Nat.reduceEqDiff, reduceCtorEq, argEnv, eq_self, if_true, if_false]
    repeat' ((first | rw [guardK_cases] | rw [condK_bool] | rw [guardD_cases]); split <;> simp only [c46, eBase, eLink, h14, evX, Int.reduceEq, Int.reduceLT, Int.reduceLE, Nat.reduceMul, Nat.reduceMod, evW, evR, Nat.reduceAdd, Nat.reduceLT, Nat.reduceLeDiff, reduceIte, Nat.reduceEqDiff, reduceCtorEq, argEnv, eq_self, if_true, if_false, *])
    all_goals simp_all [openE]
  | true =>
    cases vb : validB x.b with
    | false =>
      simp only [va, vb, Bool.and_false, Bool.false_and, Bool.false_eq_true, if_false] at h14
      simp only [c46, eBase, eLink, h14, evX, Int.reduceEq, Int.reduceLT, Int.reduceLE, Nat.reduceMul, Nat.reduceMod, evW, fn_eq, evR, Nat.reduceAdd, Nat.reduceLT, Nat.reduceLeDiff, reduceIte, Nat.reduceEqDiff, reduceCtorEq, argEnv, eq_self, if_true, if_false]
      repeat' ((first | rw [guardK_cases] | rw [condK_bool] | rw [guardD_cases]); split <;> simp only [c46, eBase, eLink, h14, evX, Int.reduceEq, Int.reduceLT, Int.reduceLE, Nat.reduceMul, Nat.reduceMod, evW, evR, Nat.reduceAdd, Nat.reduceLT, Nat.reduceLeDiff, reduceIte, Nat.reduceEqDiff, reduceCtorEq, argEnv, eq_self, if_true, if_false, *])
      all_goals simp_all [openE]
    | true =>
      cases hl : isLink x.a x.b x.l with
      | false =>
        simp only [va, vb, hl, Bool.and_true, Bool.and_false, if_true] at h14
        simp only [c46, eBase, eLink, h14, evX, Int.reduceEq, Int.reduceLT, Int.reduceLE, Nat.reduceMul, Nat.reduceMod, evW, fn_eq, evR, Nat.reduceAdd, Nat.reduceLT, Nat.reduceLeDiff, reduceIte, Nat.reduceEqDiff, reduceCtorEq, argEnv, eq_self, if_true, if_false]
        repeat' ((first | rw [guardK_cases] | rw [condK_bool] | rw [guardD_cases]); split <;> simp only [c46, eBase, eLink, h14, evX, Int.reduceEq, Int.reduceLT, Int.reduceLE, Nat.reduceMul, Nat.reduceMod, evW, evR, Nat.reduceAdd, Nat.reduceLT, Nat.reduceLeDiff, reduceIte, Nat.reduceEqDiff, reduceCtorEq, argEnv, eq_self, if_true, if_false, *])
        all_goals simp_all [openE]
      | true =>
        simp only [va, vb, hl, Bool.and_true, if_true, Bool.true_and] at h14 h1 h2
        cases hf : forestOk x.a.types x.f with
        | false =>
          simp only [hf] at h1
          simp only [c46, eBase, eLink, h14, h1, h2, evX, Int.reduceEq, Int.reduceLT, Int.reduceLE, Nat.reduceMul, Nat.reduceMod, evW, fn_eq, evR, Nat.reduceAdd, Nat.reduceLT, Nat.reduceLeDiff, reduceIte, Nat.reduceEqDiff, reduceCtorEq, argEnv, eq_self, if_true, if_false]
          repeat' ((first | rw [guardK_cases] | rw [condK_bool] | rw [guardD_cases]); split <;> simp only [c46, eBase, eLink, h14, h1, h2, evX, Int.reduceEq, Int.reduceLT, Int.reduceLE, Nat.reduceMul, Nat.reduceMod, evW, evR, Nat.reduceAdd, Nat.reduceLT, Nat.reduceLeDiff, reduceIte, Nat.reduceEqDiff, reduceCtorEq, argEnv, eq_self, if_true, if_false, *])
          all_goals simp_all [openE]
        | true =>
          simp only [hf] at h1
          cases hg : forestOk x.b.types x.g with
          | false =>
            simp only [hg] at h2
            simp only [c46, eBase, eLink, h14, h1, h2, evX, Int.reduceEq, Int.reduceLT, Int.reduceLE, Nat.reduceMul, Nat.reduceMod, evW, fn_eq, evR, Nat.reduceAdd, Nat.reduceLT, Nat.reduceLeDiff, reduceIte, Nat.reduceEqDiff, reduceCtorEq, argEnv, eq_self, if_true, if_false]
            repeat' ((first | rw [guardK_cases] | rw [condK_bool] | rw [guardD_cases]); split <;> simp only [c46, eBase, eLink, h14, h1, h2, evX, Int.reduceEq, Int.reduceLT, Int.reduceLE, Nat.reduceMul, Nat.reduceMod, evW, evR, Nat.reduceAdd, Nat.reduceLT, Nat.reduceLeDiff, reduceIte, Nat.reduceEqDiff, reduceCtorEq, argEnv, eq_self, if_true, if_false, *])
            all_goals simp_all [openE]
          | true => simp [openE, va, vb, hl, hf, hg] at he
theorem f46_ok (x : Pr) (h : x.Ok) (H : Heap) : cal (evC cprog) false 46 [eBase x.a, eBase x.b, eLink x.l, eItems x.f, eItems x.g] H = some (.tup [.ptr (H.length + 3) 0 13 0 0, .int .i64 0], H ++ [bBase x.a, bBase x.b, bLink x.l, bPair x]) := by
  rw [cal_of at46]
  have h14 := f14 x.a x.b h.a h.b x.l
  have h1 := f76 x.a h.a x.f
  have h2 := f76 x.b h.b x.g
  have va := h.va
  have vb := h.vb
  have hl := h.li
  have hf := h.f
  have hg := h.g
  simp only [eBase, eLink, bEr, va, vb, hl, hf, hg, Bool.and_true, if_true] at h14 h1 h2
  simp only [c46, eBase, eLink, h14, h1, h2, nr1_ptr, cells_eItems, isTup_eItems, evX, Int.reduceEq, Int.reduceLT, Int.reduceLE, Nat.reduceMul, Nat.reduceMod, evW, fn_eq, evR, Nat.reduceAdd, Nat.reduceLT, Nat.reduceLeDiff, reduceIte, Nat.reduceEqDiff, reduceCtorEq, argEnv, eq_self, if_true, if_false]
  repeat' ((first | rw [guardK_cases] | rw [condK_bool] | rw [guardD_cases]); split <;> simp only [c46, eBase, eLink, h14, h1, h2, nr1_ptr, cells_eItems, isTup_eItems, evX, Int.reduceEq, Int.reduceLT, Int.reduceLE, Nat.reduceMul, Nat.reduceMod, evW, evR, Nat.reduceAdd, Nat.reduceLT, Nat.reduceLeDiff, reduceIte, Nat.reduceEqDiff, reduceCtorEq, argEnv, eq_self, if_true, if_false, *])
  all_goals simp [bBase, bLink, bPair]
theorem f35_err (x : Pr) (h : x.Raw) (he : askE x ≠ 0) (H : Heap) : cal (evC cprog) false 35 [eBase x.a, eBase x.b, eLink x.l, eItems x.f, eItems x.g] H = some (.tup [.nilptr, .int .i64 (askE x)], H) := by
  rw [cal_of at35]
  by_cases h0 : openE x = 0
  · have h46 := f46_ok x (open_ok h h0)
    have h47 := fun X => f47 x (open_ok h h0) (H.length + 6) (H ++ [bBase x.a, bBase x.b, bLink x.l, bBase x.a, bBase x.b, bLink x.l, bPair x] ++ X) ((Sits.mk (by simp)).app X)
    have h47 := h47 []
    simp only [eBase, eLink, bBase, bLink, bPair, List.append_nil] at h46 h47
    unfold askE at he ⊢
    rw [if_pos h0] at he ⊢
    cases ha : agreeB x with
    | true => simp [ha] at he
    | false =>
      rw [ha] at h47
      simp only [c35, eBase, eLink, h46, h47, evX, Int.reduceEq, Int.reduceLT, Int.reduceLE, Nat.reduceMul, Nat.reduceMod, evW, fn_eq, evR, Nat.reduceAdd, Nat.reduceLT, Nat.reduceLeDiff, reduceIte, Nat.reduceEqDiff, reduceCtorEq, argEnv, eq_self, if_true, if_false]
      repeat' ((first | rw [guardK_cases] | rw [condK_bool] | rw [guardD_cases]); split <;> simp only [c35, eBase, eLink, h46, h47, evX, Int.reduceEq, Int.reduceLT, Int.reduceLE, Nat.reduceMul, Nat.reduceMod, evW, evR, Nat.reduceAdd, Nat.reduceLT, Nat.reduceLeDiff, reduceIte, Nat.reduceEqDiff, reduceCtorEq, argEnv, eq_self, if_true, if_false, *])
      all_goals simp
  · have h46 := f46_err x h h0
    simp only [eBase, eLink] at h46
    unfold askE
    rw [if_neg h0]
    simp only [c35, eBase, eLink, h46, h0, evX, Int.reduceEq, Int.reduceLT, Int.reduceLE, Nat.reduceMul, Nat.reduceMod, evW, fn_eq, evR, Nat.reduceAdd, Nat.reduceLT, Nat.reduceLeDiff, reduceIte, Nat.reduceEqDiff, reduceCtorEq, argEnv, eq_self, if_true, if_false]
    repeat' ((first | rw [guardK_cases] | rw [condK_bool] | rw [guardD_cases]); split <;> simp only [c35, eBase, eLink, h46, h0, evX, Int.reduceEq, Int.reduceLT, Int.reduceLE, Nat.reduceMul, Nat.reduceMod, evW, evR, Nat.reduceAdd, Nat.reduceLT, Nat.reduceLeDiff, reduceIte, Nat.reduceEqDiff, reduceCtorEq, argEnv, eq_self, if_true, if_false, *])
theorem f35_ok (x : Pr) (h : x.Ok) (ha : agreeB x = true) (H : Heap) : cal (evC cprog) false 35 [eBase x.a, eBase x.b, eLink x.l, eItems x.f, eItems x.g] H = some (.tup [.ptr (H.length + 6) 0 13 0 0, .int .i64 0], H ++ [bBase x.a, bBase x.b, bLink x.l, bBase x.a, bBase x.b, bLink x.l, bPair x]) := by
  rw [cal_of at35]
  have h46 := f46_ok x h
  have h47 := f47 x h (H.length + 6) (H ++ [bBase x.a, bBase x.b, bLink x.l, bBase x.a, bBase x.b, bLink x.l, bPair x]) (Sits.mk (by simp))
  rw [ha] at h47
  simp only [eBase, eLink, bBase, bLink, bPair] at h46 h47
  simp only [c35, eBase, eLink, h46, h47, nr1_ptr, evX, Int.reduceEq, Int.reduceLT, Int.reduceLE, Nat.reduceMul, Nat.reduceMod, evW, fn_eq, evR, Nat.reduceAdd, Nat.reduceLT, Nat.reduceLeDiff, reduceIte, Nat.reduceEqDiff, reduceCtorEq, argEnv, eq_self, if_true, if_false]
  repeat' ((first | rw [guardK_cases] | rw [condK_bool] | rw [guardD_cases]); split <;> simp only [c35, eBase, eLink, h46, h47, nr1_ptr, evX, Int.reduceEq, Int.reduceLT, Int.reduceLE, Nat.reduceMul, Nat.reduceMod, evW, evR, Nat.reduceAdd, Nat.reduceLT, Nat.reduceLeDiff, reduceIte, Nat.reduceEqDiff, reduceCtorEq, argEnv, eq_self, if_true, if_false, *])
  all_goals simp [bBase, bLink, bPair]
theorem ask_ok {x : Pr} (hr : x.Raw) (h : askE x = 0) : x.Ok ∧ agreeB x = true := by
  unfold askE at h
  split at h
  · rename_i h0
    split at h
    · rename_i ha; exact ⟨open_ok hr h0, ha⟩
    · cases h
  · exact absurd h ‹_›
end Go.Proofs.Ytbchmbddcdionaa.Code

