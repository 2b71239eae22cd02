/- Texts of ours, joined into one file; each begins with its own remark. -/
import Derived.Test.YtbdpceigmnpoaaaGreatDoorU1
import Derived.Test.YtbdpceigmnpoaaaGreatDoorEvR
import Derived.Test.YtbdpceigmnpoaaaGreatDoorEvZ
import Derived.Test.YtbdpceigmnpoaaaGreatDoorCodeB
import Derived.Test.YtbdpceigmnpoaaaGreatDoorRepU
import Derived.Test.YtbdpceigmnpoaaaGreatDoorStrU
import Derived.KernelRfl
/- plain: which lists are forests, as the document asks. -/
set_option linter.unusedSimpArgs false
set_option linter.unusedVariables false
namespace Go.Proofs.YtbdpceigmnpoaaaGreatDoor.Code
open Go.Proofs.YtbdpceigmnpoaaaGreatDoor.Ev

theorem k49 (b : Base) (f : List Item) (hl : f.length ≤ 1000) (H : Heap) (b1 : Nat) (hs1 : Sits H b1 (bBase b)) (st : St) (G : Heap) (hE : keepEnv st.1 [1, 2, 5] = [(1, eItems f), (2, .ptr b1 0 4 0 0), (5, .int .i64 0)]) (hH : st.2 = H ++ ([] ++ G)) (z : Option (CX × St)) (hz : itLim (evCode (evC cprog) itLim c49_l0) st = z) :
    (f.all (fits b.types) = true ∧ Lv H [] (fun c T => c = .exit 0 ∧ keepEnv T [1, 2] = [(1, eItems f), (2, .ptr b1 0 4 0 0)]) z) ∨ (f.all (fits b.types) = false ∧ Lv H [] (fun c T => c = .ret ∧ get T 4 = some (.bool false)) z) := by
  have hlen := (sItems [] f).len
  have hlen' := (sTys [] b.types).len
  simp only [List.length_map] at hlen hlen'
  have hs := hs1
  simp only [bBase, Sits] at hs
  exact all_rule f (fits b.types) [1, 2, 5] (fun i => [(1, eItems f), (2, .ptr b1 0 4 0 0), (5, .int .i64 (i : Int))]) H [] (evCode (evC cprog) itLim c49_l0) _ _
    (fun i x hx E G hE => by
      have hlt : i < f.length := (List.getElem?_eq_some_iff.1 hx).1
      have hi : (i : Int) < (f.length : Int) := by omega
      have ha := aItem hx
      have hw := wrapS hlt (by omega)
      by_cases h1 : x.type < 0
      · simp only [c49_l0, hE, hi, hs, ha, hlen, h1, rItem, evX, Int.reduceEq, Int.reduceLT, Int.reduceLE, Nat.reduceMul, Nat.reduceMod, evW, fn_eq, evR, Nat.reduceAdd, Nat.reduceLT, Nat.reduceLeDiff, reduceIte, Nat.reduceEqDiff, reduceCtorEq, argEnv, eq_self, if_true, if_false]
        repeat' ((first | rw [guardK_cases] | rw [condK_bool] | rw [guardD_cases]); split <;> simp only [c49_l0, hE, hi, hs, ha, hlen, h1, rItem, evX, Int.reduceEq, Int.reduceLT, Int.reduceLE, Nat.reduceMul, Nat.reduceMod, evW, evR, Nat.reduceAdd, Nat.reduceLT, Nat.reduceLeDiff, reduceIte, Nat.reduceEqDiff, reduceCtorEq, argEnv, eq_self, if_true, if_false, *])
        exact Sc.ret (fits_none (by omega)) ⟨rfl, by rfl⟩
      by_cases h2 : (b.types.length : Int) ≤ x.type
      · simp only [c49_l0, hE, hi, hs, ha, hlen, hlen', h1, h2, rItem, evX, Int.reduceEq, Int.reduceLT, Int.reduceLE, Nat.reduceMul, Nat.reduceMod, evW, fn_eq, evR, Nat.reduceAdd, Nat.reduceLT, Nat.reduceLeDiff, reduceIte, Nat.reduceEqDiff, reduceCtorEq, argEnv, eq_self, if_true, if_false]
        repeat' ((first | rw [guardK_cases] | rw [condK_bool] | rw [guardD_cases]); split <;> simp only [c49_l0, hE, hi, hs, ha, hlen, hlen', h1, h2, rItem, evX, Int.reduceEq, Int.reduceLT, Int.reduceLE, Nat.reduceMul, Nat.reduceMod, evW, evR, Nat.reduceAdd, Nat.reduceLT, Nat.reduceLeDiff, reduceIte, Nat.reduceEqDiff, reduceCtorEq, argEnv, eq_self, if_true, if_false, *])
        exact Sc.ret (fits_none (by omega)) ⟨rfl, by rfl⟩
      obtain ⟨k, hk⟩ : ∃ k : Nat, x.type = (k : Int) := ⟨x.type.toNat, by omega⟩
      obtain ⟨t, ht⟩ : ∃ t, b.types[k]? = some t := ⟨_, List.getElem?_eq_getElem (by omega)⟩
      have hat := aTy ht
      rw [← hk] at hat
      by_cases h3 : (x.data.size : Int) < t.min
      · simp only [c49_l0, hE, hi, hs, ha, hat, hlen, hlen', h1, h2, h3, rItem, rTy, evX, Int.reduceEq, Int.reduceLT, Int.reduceLE, Nat.reduceMul, Nat.reduceMod, evW, fn_eq, evR, Nat.reduceAdd, Nat.reduceLT, Nat.reduceLeDiff, reduceIte, Nat.reduceEqDiff, reduceCtorEq, argEnv, eq_self, if_true, if_false]
        repeat' ((first | rw [guardK_cases] | rw [condK_bool] | rw [guardD_cases]); split <;> simp only [c49_l0, hE, hi, hs, ha, hat, hlen, hlen', h1, h2, h3, rItem, rTy, evX, Int.reduceEq, Int.reduceLT, Int.reduceLE, Nat.reduceMul, Nat.reduceMod, evW, evR, Nat.reduceAdd, Nat.reduceLT, Nat.reduceLeDiff, reduceIte, Nat.reduceEqDiff, reduceCtorEq, argEnv, eq_self, if_true, if_false, *])
        exact Sc.ret (by rw [fits_at hk ht, decide_eq_false (by omega)]; rfl) ⟨rfl, by rfl⟩
      by_cases h4 : t.size < (x.data.size : Int)
      · simp only [c49_l0, hE, hi, hs, ha, hat, hlen, hlen', h1, h2, h3, h4, rItem, rTy, evX, Int.reduceEq, Int.reduceLT, Int.reduceLE, Nat.reduceMul, Nat.reduceMod, evW, fn_eq, evR, Nat.reduceAdd, Nat.reduceLT, Nat.reduceLeDiff, reduceIte, Nat.reduceEqDiff, reduceCtorEq, argEnv, eq_self, if_true, if_false]
        repeat' ((first | rw [guardK_cases] | rw [condK_bool] | rw [guardD_cases]); split <;> simp only [c49_l0, hE, hi, hs, ha, hat, hlen, hlen', h1, h2, h3, h4, rItem, rTy, evX, Int.reduceEq, Int.reduceLT, Int.reduceLE, Nat.reduceMul, Nat.reduceMod, evW, evR, Nat.reduceAdd, Nat.reduceLT, Nat.reduceLeDiff, reduceIte, Nat.reduceEqDiff, reduceCtorEq, argEnv, eq_self, if_true, if_false, *])
        exact Sc.ret (by rw [fits_at hk ht, decide_eq_false (show ¬ (x.data.size : Int) ≤ t.size by omega), Bool.and_false]) ⟨rfl, by rfl⟩
      · simp only [c49_l0, hE, hi, hs, ha, hat, hlen, hlen', h1, h2, h3, h4, hw, rItem, rTy, evX, Int.reduceEq, Int.reduceLT, Int.reduceLE, Nat.reduceMul, Nat.reduceMod, evW, fn_eq, evR, Nat.reduceAdd, Nat.reduceLT, Nat.reduceLeDiff, reduceIte, Nat.reduceEqDiff, reduceCtorEq, argEnv, eq_self, if_true, if_false]
        repeat' ((first | rw [guardK_cases] | rw [condK_bool] | rw [guardD_cases]); split <;> simp only [c49_l0, hE, hi, hs, ha, hat, hlen, hlen', h1, h2, h3, h4, hw, rItem, rTy, evX, Int.reduceEq, Int.reduceLT, Int.reduceLE, Nat.reduceMul, Nat.reduceMod, evW, evR, Nat.reduceAdd, Nat.reduceLT, Nat.reduceLeDiff, reduceIte, Nat.reduceEqDiff, reduceCtorEq, argEnv, eq_self, if_true, if_false, *])
        exact Sc.next (by rw [fits_at hk ht, decide_eq_true (by omega), decide_eq_true (by omega)]; rfl) (by rfl))
    (fun E G hE => by
      simp only [c49_l0, hE, hlen, Int.lt_irrefl, evX, Int.reduceEq, Int.reduceLT, Int.reduceLE, Nat.reduceMul, Nat.reduceMod, evW, fn_eq, evR, Nat.reduceAdd, Nat.reduceLT, Nat.reduceLeDiff, reduceIte, Nat.reduceEqDiff, reduceCtorEq, argEnv, eq_self, if_true, if_false]
      repeat' ((first | rw [guardK_cases] | rw [condK_bool] | rw [guardD_cases]); split <;> simp only [c49_l0, hE, hlen, Int.lt_irrefl, evX, Int.reduceEq, Int.reduceLT, Int.reduceLE, Nat.reduceMul, Nat.reduceMod, evW, evR, Nat.reduceAdd, Nat.reduceLT, Nat.reduceLeDiff, reduceIte, Nat.reduceEqDiff, reduceCtorEq, argEnv, eq_self, if_true, if_false, *])
      exact .exit (K := []) ⟨rfl, by rfl⟩) st G hE hH z hz
theorem m49 (b : Base) (ht : tysOk b.types = true) (f : List Item) (hfit : AllFit b.types f) (hl : f.length ≤ 1000) (H : Heap) (b1 : Nat) (hs1 : Sits H b1 (bBase b)) (st : St) (G : Heap) (hE : keepEnv st.1 [1, 2, 6] = [(1, eItems f), (2, .ptr b1 0 4 0 0), (6, .int .i64 0)]) (hH : st.2 = H ++ ([] ++ G)) (z : Option (CX × St)) (hz : itLim (evCode (evC cprog) itLim c49_l2) st = z) :
    (tell (∀ (i : Nat) (x : Item), f[i]? = some x → okAt b.types f i x = true) = true ∧ Lv H [] (fun c T => c = .exit 2) z) ∨ (tell (∀ (i : Nat) (x : Item), f[i]? = some x → okAt b.types f i x = true) = false ∧ Lv H [] (fun c T => c = .ret ∧ get T 4 = some (.bool false)) z) := by
  have hlen := (sItems [] f).len
  simp only [List.length_map] at hlen
  have hs := hs1
  simp only [bBase, Sits] at hs
  have L := scan_pre f (okAt b.types f) [1, 2, 6] (fun i => [(1, eItems f), (2, .ptr b1 0 4 0 0), (6, .int .i64 (i : Int))]) H [] (evCode (evC cprog) itLim c49_l2) (fun c T => c = .exit 2) (fun _ _ c T => c = .ret ∧ get T 4 = some (.bool false))
    (fun i x hx hpre E G hE => by
      have hlt : i < f.length := (List.getElem?_eq_some_iff.1 hx).1
      have hi : (i : Int) < (f.length : Int) := by omega
      have ha := aItem hx
      have hw := wrapS hlt (by omega)
      have hft := hfit i x hx
      obtain ⟨k, t, hk, hkl, htk, hmin, hmax⟩ := fits_some hft
      have hat := aTy htk
      rw [← hk] at hat
      have hpt : tpar b.types x.type = t.parent := by rw [hk, tpar_at htk]
      have hty : tyOk t = true := by have := tell_true.1 ht k t htk; simp only [tyAt, Bool.and_eq_true] at this; exact this.1.1.1
      have htyo : tyOf b.types x.type = t := by rw [hk, tyOf_at htk]
      have h64 := f89 b f i x hx k t hk htk hl
      simp only [eBase] at h64
      have hb := par_lt b.types f i
      have hwm : IntKind.i64.wrap ((i : Int) - 1) = (i : Int) - 1 := wrap_i64 (by omega) (by omega)
      by_cases hA : par b.types f i < 0 ∧ x.type ≠ 0
      · obtain ⟨hA1, hA2⟩ := hA
        simp only [c49_l2, hE, hi, hs, ha, hlen, h64, hA1, hA2, rItem, evX, Int.reduceEq, Int.reduceLT, Int.reduceLE, Nat.reduceMul, Nat.reduceMod, evW, fn_eq, evR, Nat.reduceAdd, Nat.reduceLT, Nat.reduceLeDiff, reduceIte, Nat.reduceEqDiff, reduceCtorEq, argEnv, eq_self, if_true, if_false]
        repeat' ((first | rw [guardK_cases] | rw [condK_bool] | rw [guardD_cases]); split <;> simp only [c49_l2, hE, hi, hs, ha, hlen, h64, hA1, hA2, rItem, evX, Int.reduceEq, Int.reduceLT, Int.reduceLE, Nat.reduceMul, Nat.reduceMod, evW, evR, Nat.reduceAdd, Nat.reduceLT, Nat.reduceLeDiff, reduceIte, Nat.reduceEqDiff, reduceCtorEq, argEnv, eq_self, if_true, if_false, *])
        refine Sc.ret ?_ ⟨rfl, rfl⟩
        have h1 : ¬ t.parent < 0 := fun h => by have := (tys_root ht htk).1 h; omega
        have h2 : par b.types f i ∉ way b.types f i := fun h => by have := way_bound h; omega
        rw [okAt, hpt, decide_eq_false h1, tell_neg h2]; simp
      have hcont : ∃ u, (decide (par b.types f i < 0) = true ∧ decide (x.type = 0) = true ∧ u = ()) ∨ (decide (par b.types f i < 0) = false ∧ u = ()) := ⟨(), by
        by_cases h : par b.types f i < 0
        · exact .inl ⟨decide_eq_true h, decide_eq_true (Classical.byContradiction fun h' => hA ⟨h, h'⟩), rfl⟩
        · exact .inr ⟨decide_eq_false h, rfl⟩⟩
      obtain ⟨_, ⟨c1, c2, _⟩ | ⟨c1, _⟩⟩ := hcont
      · simp only [c49_l2, hE, hi, hs, ha, hlen, h64, c1, c2, hwm, rItem, evX, Int.reduceEq, Int.reduceLT, Int.reduceLE, Nat.reduceMul, Nat.reduceMod, evW, fn_eq, evR, Nat.reduceAdd, Nat.reduceLT, Nat.reduceLeDiff, reduceIte, Nat.reduceEqDiff, reduceCtorEq, argEnv, eq_self, if_true, if_false]
        repeat' ((first | rw [guardK_cases] | rw [condK_bool] | rw [guardD_cases]); split <;> simp only [c49_l2, hE, hi, hs, ha, hlen, h64, c1, c2, hwm, rItem, evX, Int.reduceEq, Int.reduceLT, Int.reduceLE, Nat.reduceMul, Nat.reduceMod, evW, evR, Nat.reduceAdd, Nat.reduceLT, Nat.reduceLeDiff, reduceIte, Nat.reduceEqDiff, reduceCtorEq, argEnv, eq_self, if_true, if_false, *])
        generalize hz : itLim _ _ = z
        obtain ⟨T, K, rfl, hT, k1, k2, hW⟩ := l49 b f hfit hl i hlt H b1 hs1 (par b.types f i) hb.1 _ G (by rfl) (by rfl) z hz
        rcases hW with ⟨g1, g2⟩ | ⟨g0, ⟨rfl, g1⟩ | ⟨g1, g2⟩⟩
        · simp only [hT, g1, evX, Int.reduceEq, Int.reduceLT, Int.reduceLE, Nat.reduceMul, Nat.reduceMod, evW, fn_eq, evR, Nat.reduceAdd, Nat.reduceLT, Nat.reduceLeDiff, reduceIte, Nat.reduceEqDiff, reduceCtorEq, argEnv, eq_self, if_true, if_false]
          repeat' ((first | rw [guardK_cases] | rw [condK_bool] | rw [guardD_cases]); split <;> simp only [hT, g1, evX, Int.reduceEq, Int.reduceLT, Int.reduceLE, Nat.reduceMul, Nat.reduceMod, evW, evR, Nat.reduceAdd, Nat.reduceLT, Nat.reduceLeDiff, reduceIte, Nat.reduceEqDiff, reduceCtorEq, argEnv, eq_self, if_true, if_false, *])
          refine Sc.ret ?_ ⟨rfl, rfl⟩
          have h1 := (par_typ (ts := b.types) (f := f) (i := i) (by omega)).2
          rw [typ_at hx] at h1
          rw [okAt, decide_eq_false (by omega), tell_neg g2]; simp
        · have hok : (decide (tpar b.types x.type < 0) || tell (par b.types f i ∈ way b.types f i)) = true := by
            rcases g0 with g0 | g0
            · have h0 : x.type = 0 := Classical.byContradiction fun h' => hA ⟨g0, h'⟩
              rw [hpt, decide_eq_true ((tys_root ht htk).2 (by omega))]; rfl
            · rw [tell_pos g0]; simp
          have hsib : sibOk b.types f i x = true := by simp only [sibOk, nOf, g1]
          simp only [hT, Int.lt_irrefl, hw, evX, Int.reduceEq, Int.reduceLT, Int.reduceLE, Nat.reduceMul, Nat.reduceMod, evW, fn_eq, evR, Nat.reduceAdd, Nat.reduceLT, Nat.reduceLeDiff, reduceIte, Nat.reduceEqDiff, reduceCtorEq, argEnv, eq_self, if_true, if_false]
          repeat' ((first | rw [guardK_cases] | rw [condK_bool] | rw [guardD_cases]); split <;> simp only [hT, Int.lt_irrefl, hw, evX, Int.reduceEq, Int.reduceLT, Int.reduceLE, Nat.reduceMul, Nat.reduceMod, evW, evR, Nat.reduceAdd, Nat.reduceLT, Nat.reduceLeDiff, reduceIte, Nat.reduceEqDiff, reduceCtorEq, argEnv, eq_self, if_true, if_false, *])
          exact Sc.next (by rw [okAt, hft, hok, hsib]; rfl) (by rfl)
        · have hok : (decide (tpar b.types x.type < 0) || tell (par b.types f i ∈ way b.types f i)) = true := by
            rcases g0 with g0 | g0
            · have h0 : x.type = 0 := Classical.byContradiction fun h' => hA ⟨g0, h'⟩
              rw [hpt, decide_eq_true ((tys_root ht htk).2 (by omega))]; rfl
            · rw [tell_pos g0]; simp
          have hKb := way_bound (List.mem_of_getElem? g2)
          obtain ⟨a, rfl⟩ : ∃ a : Nat, K = (a : Int) := ⟨K.toNat, by omega⟩
          obtain ⟨y, hy⟩ : ∃ y, f[a]? = some y := ⟨_, List.getElem?_eq_getElem (by omega)⟩
          have hya := aItem hy
          have n1 : ¬ (a : Int) < par b.types f i := by omega
          have n2 : ¬ (a : Int) = par b.types f i := by omega
          have hsib : sibOk b.types f i x = ordOk b.types f (a : Int) x := by simp only [sibOk, nOf, g2]
          simp only [ordOk, typ_at hy, dat_at hy, htyo] at hsib
          by_cases o1 : x.type < y.type
          · simp only [hT, n1, n2, ha, hya, o1, rItem, evX, Int.reduceEq, Int.reduceLT, Int.reduceLE, Nat.reduceMul, Nat.reduceMod, evW, fn_eq, evR, Nat.reduceAdd, Nat.reduceLT, Nat.reduceLeDiff, reduceIte, Nat.reduceEqDiff, reduceCtorEq, argEnv, eq_self, if_true, if_false]
            repeat' ((first | rw [guardK_cases] | rw [condK_bool] | rw [guardD_cases]); split <;> simp only [hT, n1, n2, ha, hya, o1, rItem, evX, Int.reduceEq, Int.reduceLT, Int.reduceLE, Nat.reduceMul, Nat.reduceMod, evW, evR, Nat.reduceAdd, Nat.reduceLT, Nat.reduceLeDiff, reduceIte, Nat.reduceEqDiff, reduceCtorEq, argEnv, eq_self, if_true, if_false, *])
            exact Sc.ret (bad_sib (by rw [hsib, decide_eq_false (show ¬ y.type < x.type by omega), decide_eq_false (show ¬ y.type = x.type by omega)]; rfl)) ⟨rfl, rfl⟩
          by_cases o2 : y.type = x.type
          · have hfy := fits_some (hfit a y hy)
            obtain ⟨k', t', q1, _, q2, q3, _⟩ := hfy
            obtain rfl : k' = k := by omega
            rw [htk] at q2; cases q2
            have o0 : ¬ x.type < x.type := by omega
            by_cases o4 : 0 ≤ t.key
            · have h1 := f90 b y k' t (by omega) htk hty q3
              have h2 := f90 b x k' t hk htk hty hmin
              simp only [eBase, rItem, o2] at h1 h2
              have hin : inOrd t y.data x.data = (bLt (keyOf t y.data) (keyOf t x.data) || (decide (keyOf t y.data = keyOf t x.data) && !t.unique)) := by
                rw [inOrd, decide_eq_false (by omega)]; rfl
              rw [hin, decide_eq_false (show ¬ y.type < x.type by omega), decide_eq_true o2] at hsib
              cases o5 : bLt (keyOf t y.data) (keyOf t x.data) with
              | true =>
                have o6 : ¬ keyOf t y.data = keyOf t x.data := fun e => by rw [e, bLt_irrefl] at o5; cases o5
                rw [o5] at hsib
                simp only [hT, hs, n1, n2, ha, hya, hat, o0, o2, o4, o5, o6, h1, h2, hw, rItem, rTy, evX, Int.reduceEq, Int.reduceLT, Int.reduceLE, Nat.reduceMul, Nat.reduceMod, evW, fn_eq, evR, Nat.reduceAdd, Nat.reduceLT, Nat.reduceLeDiff, reduceIte, Nat.reduceEqDiff, reduceCtorEq, argEnv, eq_self, if_true, if_false]
                repeat' ((first | rw [guardK_cases] | rw [condK_bool] | rw [guardD_cases]); split <;> simp only [hT, hs, n1, n2, ha, hya, hat, o0, o2, o4, o5, o6, h1, h2, hw, rItem, rTy, evX, Int.reduceEq, Int.reduceLT, Int.reduceLE, Nat.reduceMul, Nat.reduceMod, evW, evR, Nat.reduceAdd, Nat.reduceLT, Nat.reduceLeDiff, reduceIte, Nat.reduceEqDiff, reduceCtorEq, argEnv, eq_self, if_true, if_false, *])
                exact Sc.next (by rw [okAt, hft, hok, hsib]; rfl) (by rfl)
              | false =>
                by_cases o6 : keyOf t y.data = keyOf t x.data
                · cases o7 : t.unique with
                  | true =>
                    rw [o5, o7] at hsib
                    simp only [hT, hs, n1, n2, ha, hya, hat, o0, o2, o4, o5, o6, o7, bLt_irrefl, h1, h2, rItem, rTy, evX, Int.reduceEq, Int.reduceLT, Int.reduceLE, Nat.reduceMul, Nat.reduceMod, evW, fn_eq, evR, Nat.reduceAdd, Nat.reduceLT, Nat.reduceLeDiff, reduceIte, Nat.reduceEqDiff, reduceCtorEq, argEnv, eq_self, if_true, if_false]
                    repeat' ((first | rw [guardK_cases] | rw [condK_bool] | rw [guardD_cases]); split <;> simp only [hT, hs, n1, n2, ha, hya, hat, o0, o2, o4, o5, o6, o7, bLt_irrefl, h1, h2, rItem, rTy, evX, Int.reduceEq, Int.reduceLT, Int.reduceLE, Nat.reduceMul, Nat.reduceMod, evW, evR, Nat.reduceAdd, Nat.reduceLT, Nat.reduceLeDiff, reduceIte, Nat.reduceEqDiff, reduceCtorEq, argEnv, eq_self, if_true, if_false, *])
                    exact Sc.ret (bad_sib (by rw [hsib]; simp)) ⟨rfl, rfl⟩
                  | false =>
                    rw [o5, o7, decide_eq_true o6] at hsib
                    simp only [hT, hs, n1, n2, ha, hya, hat, o0, o2, o4, o5, o6, o7, bLt_irrefl, h1, h2, hw, rItem, rTy, evX, Int.reduceEq, Int.reduceLT, Int.reduceLE, Nat.reduceMul, Nat.reduceMod, evW, fn_eq, evR, Nat.reduceAdd, Nat.reduceLT, Nat.reduceLeDiff, reduceIte, Nat.reduceEqDiff, reduceCtorEq, argEnv, eq_self, if_true, if_false]
                    repeat' ((first | rw [guardK_cases] | rw [condK_bool] | rw [guardD_cases]); split <;> simp only [hT, hs, n1, n2, ha, hya, hat, o0, o2, o4, o5, o6, o7, bLt_irrefl, h1, h2, hw, rItem, rTy, evX, Int.reduceEq, Int.reduceLT, Int.reduceLE, Nat.reduceMul, Nat.reduceMod, evW, evR, Nat.reduceAdd, Nat.reduceLT, Nat.reduceLeDiff, reduceIte, Nat.reduceEqDiff, reduceCtorEq, argEnv, eq_self, if_true, if_false, *])
                    exact Sc.next (by rw [okAt, hft, hok, hsib]; rfl) (by rfl)
                · rw [o5, decide_eq_false o6] at hsib
                  simp only [hT, hs, n1, n2, ha, hya, hat, o0, o2, o4, o5, o6, h1, h2, rItem, rTy, evX, Int.reduceEq, Int.reduceLT, Int.reduceLE, Nat.reduceMul, Nat.reduceMod, evW, fn_eq, evR, Nat.reduceAdd, Nat.reduceLT, Nat.reduceLeDiff, reduceIte, Nat.reduceEqDiff, reduceCtorEq, argEnv, eq_self, if_true, if_false]
                  repeat' ((first | rw [guardK_cases] | rw [condK_bool] | rw [guardD_cases]); split <;> simp only [hT, hs, n1, n2, ha, hya, hat, o0, o2, o4, o5, o6, h1, h2, rItem, rTy, evX, Int.reduceEq, Int.reduceLT, Int.reduceLE, Nat.reduceMul, Nat.reduceMod, evW, evR, Nat.reduceAdd, Nat.reduceLT, Nat.reduceLeDiff, reduceIte, Nat.reduceEqDiff, reduceCtorEq, argEnv, eq_self, if_true, if_false, *])
                  exact Sc.ret (bad_sib (by rw [hsib]; simp)) ⟨rfl, rfl⟩
            · have hin : inOrd t y.data x.data = true := by rw [inOrd, decide_eq_true (by omega)]; rfl
              rw [hin, decide_eq_true o2] at hsib
              simp only [hT, hs, n1, n2, ha, hya, hat, o0, o2, o4, hw, rItem, rTy, evX, Int.reduceEq, Int.reduceLT, Int.reduceLE, Nat.reduceMul, Nat.reduceMod, evW, fn_eq, evR, Nat.reduceAdd, Nat.reduceLT, Nat.reduceLeDiff, reduceIte, Nat.reduceEqDiff, reduceCtorEq, argEnv, eq_self, if_true, if_false]
              repeat' ((first | rw [guardK_cases] | rw [condK_bool] | rw [guardD_cases]); split <;> simp only [hT, hs, n1, n2, ha, hya, hat, o0, o2, o4, hw, rItem, rTy, evX, Int.reduceEq, Int.reduceLT, Int.reduceLE, Nat.reduceMul, Nat.reduceMod, evW, evR, Nat.reduceAdd, Nat.reduceLT, Nat.reduceLeDiff, reduceIte, Nat.reduceEqDiff, reduceCtorEq, argEnv, eq_self, if_true, if_false, *])
              exact Sc.next (by rw [okAt, hft, hok, hsib]; simp) (by rfl)
          · simp only [hT, hs, n1, n2, ha, hya, o1, o2, hw, rItem, rTy, evX, Int.reduceEq, Int.reduceLT, Int.reduceLE, Nat.reduceMul, Nat.reduceMod, evW, fn_eq, evR, Nat.reduceAdd, Nat.reduceLT, Nat.reduceLeDiff, reduceIte, Nat.reduceEqDiff, reduceCtorEq, argEnv, eq_self, if_true, if_false]
            repeat' ((first | rw [guardK_cases] | rw [condK_bool] | rw [guardD_cases]); split <;> simp only [hT, hs, n1, n2, ha, hya, o1, o2, hw, rItem, rTy, evX, Int.reduceEq, Int.reduceLT, Int.reduceLE, Nat.reduceMul, Nat.reduceMod, evW, evR, Nat.reduceAdd, Nat.reduceLT, Nat.reduceLeDiff, reduceIte, Nat.reduceEqDiff, reduceCtorEq, argEnv, eq_self, if_true, if_false, *])
            exact Sc.next (by rw [okAt, hft, hok, hsib, decide_eq_true (show y.type < x.type by omega)]; rfl) (by rfl)
      · simp only [c49_l2, hE, hi, hs, ha, hlen, h64, c1, hwm, rItem, evX, Int.reduceEq, Int.reduceLT, Int.reduceLE, Nat.reduceMul, Nat.reduceMod, evW, fn_eq, evR, Nat.reduceAdd, Nat.reduceLT, Nat.reduceLeDiff, reduceIte, Nat.reduceEqDiff, reduceCtorEq, argEnv, eq_self, if_true, if_false]
        repeat' ((first | rw [guardK_cases] | rw [condK_bool] | rw [guardD_cases]); split <;> simp only [c49_l2, hE, hi, hs, ha, hlen, h64, c1, hwm, rItem, evX, Int.reduceEq, Int.reduceLT, Int.reduceLE, Nat.reduceMul, Nat.reduceMod, evW, evR, Nat.reduceAdd, Nat.reduceLT, Nat.reduceLeDiff, reduceIte, Nat.reduceEqDiff, reduceCtorEq, argEnv, eq_self, if_true, if_false, *])
        generalize hz : itLim _ _ = z
        obtain ⟨T, K, rfl, hT, k1, k2, hW⟩ := l49 b f hfit hl i hlt H b1 hs1 (par b.types f i) hb.1 _ G (by rfl) (by rfl) z hz
        rcases hW with ⟨g1, g2⟩ | ⟨g0, ⟨rfl, g1⟩ | ⟨g1, g2⟩⟩
        · simp only [hT, g1, evX, Int.reduceEq, Int.reduceLT, Int.reduceLE, Nat.reduceMul, Nat.reduceMod, evW, fn_eq, evR, Nat.reduceAdd, Nat.reduceLT, Nat.reduceLeDiff, reduceIte, Nat.reduceEqDiff, reduceCtorEq, argEnv, eq_self, if_true, if_false]
          repeat' ((first | rw [guardK_cases] | rw [condK_bool] | rw [guardD_cases]); split <;> simp only [hT, g1, evX, Int.reduceEq, Int.reduceLT, Int.reduceLE, Nat.reduceMul, Nat.reduceMod, evW, evR, Nat.reduceAdd, Nat.reduceLT, Nat.reduceLeDiff, reduceIte, Nat.reduceEqDiff, reduceCtorEq, argEnv, eq_self, if_true, if_false, *])
          refine Sc.ret ?_ ⟨rfl, rfl⟩
          have h1 := (par_typ (ts := b.types) (f := f) (i := i) (by omega)).2
          rw [typ_at hx] at h1
          rw [okAt, decide_eq_false (by omega), tell_neg g2]; simp
        · have hok : (decide (tpar b.types x.type < 0) || tell (par b.types f i ∈ way b.types f i)) = true := by
            rcases g0 with g0 | g0
            · have h0 : x.type = 0 := Classical.byContradiction fun h' => hA ⟨g0, h'⟩
              rw [hpt, decide_eq_true ((tys_root ht htk).2 (by omega))]; rfl
            · rw [tell_pos g0]; simp
          have hsib : sibOk b.types f i x = true := by simp only [sibOk, nOf, g1]
          simp only [hT, Int.lt_irrefl, hw, evX, Int.reduceEq, Int.reduceLT, Int.reduceLE, Nat.reduceMul, Nat.reduceMod, evW, fn_eq, evR, Nat.reduceAdd, Nat.reduceLT, Nat.reduceLeDiff, reduceIte, Nat.reduceEqDiff, reduceCtorEq, argEnv, eq_self, if_true, if_false]
          repeat' ((first | rw [guardK_cases] | rw [condK_bool] | rw [guardD_cases]); split <;> simp only [hT, Int.lt_irrefl, hw, evX, Int.reduceEq, Int.reduceLT, Int.reduceLE, Nat.reduceMul, Nat.reduceMod, evW, evR, Nat.reduceAdd, Nat.reduceLT, Nat.reduceLeDiff, reduceIte, Nat.reduceEqDiff, reduceCtorEq, argEnv, eq_self, if_true, if_false, *])
          exact Sc.next (by rw [okAt, hft, hok, hsib]; rfl) (by rfl)
        · have hok : (decide (tpar b.types x.type < 0) || tell (par b.types f i ∈ way b.types f i)) = true := by
            rcases g0 with g0 | g0
            · have h0 : x.type = 0 := Classical.byContradiction fun h' => hA ⟨g0, h'⟩
              rw [hpt, decide_eq_true ((tys_root ht htk).2 (by omega))]; rfl
            · rw [tell_pos g0]; simp
          have hKb := way_bound (List.mem_of_getElem? g2)
          obtain ⟨a, rfl⟩ : ∃ a : Nat, K = (a : Int) := ⟨K.toNat, by omega⟩
          obtain ⟨y, hy⟩ : ∃ y, f[a]? = some y := ⟨_, List.getElem?_eq_getElem (by omega)⟩
          have hya := aItem hy
          have n1 : ¬ (a : Int) < par b.types f i := by omega
          have n2 : ¬ (a : Int) = par b.types f i := by omega
          have hsib : sibOk b.types f i x = ordOk b.types f (a : Int) x := by simp only [sibOk, nOf, g2]
          simp only [ordOk, typ_at hy, dat_at hy, htyo] at hsib
          by_cases o1 : x.type < y.type
          · simp only [hT, n1, n2, ha, hya, o1, rItem, evX, Int.reduceEq, Int.reduceLT, Int.reduceLE, Nat.reduceMul, Nat.reduceMod, evW, fn_eq, evR, Nat.reduceAdd, Nat.reduceLT, Nat.reduceLeDiff, reduceIte, Nat.reduceEqDiff, reduceCtorEq, argEnv, eq_self, if_true, if_false]
            repeat' ((first | rw [guardK_cases] | rw [condK_bool] | rw [guardD_cases]); split <;> simp only [hT, n1, n2, ha, hya, o1, rItem, evX, Int.reduceEq, Int.reduceLT, Int.reduceLE, Nat.reduceMul, Nat.reduceMod, evW, evR, Nat.reduceAdd, Nat.reduceLT, Nat.reduceLeDiff, reduceIte, Nat.reduceEqDiff, reduceCtorEq, argEnv, eq_self, if_true, if_false, *])
            exact Sc.ret (bad_sib (by rw [hsib, decide_eq_false (show ¬ y.type < x.type by omega), decide_eq_false (show ¬ y.type = x.type by omega)]; rfl)) ⟨rfl, rfl⟩
          by_cases o2 : y.type = x.type
          · have hfy := fits_some (hfit a y hy)
            obtain ⟨k', t', q1, _, q2, q3, _⟩ := hfy
            obtain rfl : k' = k := by omega
            rw [htk] at q2; cases q2
            have o0 : ¬ x.type < x.type := by omega
            by_cases o4 : 0 ≤ t.key
            · have h1 := f90 b y k' t (by omega) htk hty q3
              have h2 := f90 b x k' t hk htk hty hmin
              simp only [eBase, rItem, o2] at h1 h2
              have hin : inOrd t y.data x.data = (bLt (keyOf t y.data) (keyOf t x.data) || (decide (keyOf t y.data = keyOf t x.data) && !t.unique)) := by
                rw [inOrd, decide_eq_false (by omega)]; rfl
              rw [hin, decide_eq_false (show ¬ y.type < x.type by omega), decide_eq_true o2] at hsib
              cases o5 : bLt (keyOf t y.data) (keyOf t x.data) with
              | true =>
                have o6 : ¬ keyOf t y.data = keyOf t x.data := fun e => by rw [e, bLt_irrefl] at o5; cases o5
                rw [o5] at hsib
                simp only [hT, hs, n1, n2, ha, hya, hat, o0, o2, o4, o5, o6, h1, h2, hw, rItem, rTy, evX, Int.reduceEq, Int.reduceLT, Int.reduceLE, Nat.reduceMul, Nat.reduceMod, evW, fn_eq, evR, Nat.reduceAdd, Nat.reduceLT, Nat.reduceLeDiff, reduceIte, Nat.reduceEqDiff, reduceCtorEq, argEnv, eq_self, if_true, if_false]
                repeat' ((first | rw [guardK_cases] | rw [condK_bool] | rw [guardD_cases]); split <;> simp only [hT, hs, n1, n2, ha, hya, hat, o0, o2, o4, o5, o6, h1, h2, hw, rItem, rTy, evX, Int.reduceEq, Int.reduceLT, Int.reduceLE, Nat.reduceMul, Nat.reduceMod, evW, evR, Nat.reduceAdd, Nat.reduceLT, Nat.reduceLeDiff, reduceIte, Nat.reduceEqDiff, reduceCtorEq, argEnv, eq_self, if_true, if_false, *])
                exact Sc.next (by rw [okAt, hft, hok, hsib]; rfl) (by rfl)
              | false =>
                by_cases o6 : keyOf t y.data = keyOf t x.data
                · cases o7 : t.unique with
                  | true =>
                    rw [o5, o7] at hsib
                    simp only [hT, hs, n1, n2, ha, hya, hat, o0, o2, o4, o5, o6, o7, bLt_irrefl, h1, h2, rItem, rTy, evX, Int.reduceEq, Int.reduceLT, Int.reduceLE, Nat.reduceMul, Nat.reduceMod, evW, fn_eq, evR, Nat.reduceAdd, Nat.reduceLT, Nat.reduceLeDiff, reduceIte, Nat.reduceEqDiff, reduceCtorEq, argEnv, eq_self, if_true, if_false]
                    repeat' ((first | rw [guardK_cases] | rw [condK_bool] | rw [guardD_cases]); split <;> simp only [hT, hs, n1, n2, ha, hya, hat, o0, o2, o4, o5, o6, o7, bLt_irrefl, h1, h2, rItem, rTy, evX, Int.reduceEq, Int.reduceLT, Int.reduceLE, Nat.reduceMul, Nat.reduceMod, evW, evR, Nat.reduceAdd, Nat.reduceLT, Nat.reduceLeDiff, reduceIte, Nat.reduceEqDiff, reduceCtorEq, argEnv, eq_self, if_true, if_false, *])
                    exact Sc.ret (bad_sib (by rw [hsib]; simp)) ⟨rfl, rfl⟩
                  | false =>
                    rw [o5, o7, decide_eq_true o6] at hsib
                    simp only [hT, hs, n1, n2, ha, hya, hat, o0, o2, o4, o5, o6, o7, bLt_irrefl, h1, h2, hw, rItem, rTy, evX, Int.reduceEq, Int.reduceLT, Int.reduceLE, Nat.reduceMul, Nat.reduceMod, evW, fn_eq, evR, Nat.reduceAdd, Nat.reduceLT, Nat.reduceLeDiff, reduceIte, Nat.reduceEqDiff, reduceCtorEq, argEnv, eq_self, if_true, if_false]
                    repeat' ((first | rw [guardK_cases] | rw [condK_bool] | rw [guardD_cases]); split <;> simp only [hT, hs, n1, n2, ha, hya, hat, o0, o2, o4, o5, o6, o7, bLt_irrefl, h1, h2, hw, rItem, rTy, evX, Int.reduceEq, Int.reduceLT, Int.reduceLE, Nat.reduceMul, Nat.reduceMod, evW, evR, Nat.reduceAdd, Nat.reduceLT, Nat.reduceLeDiff, reduceIte, Nat.reduceEqDiff, reduceCtorEq, argEnv, eq_self, if_true, if_false, *])
                    exact Sc.next (by rw [okAt, hft, hok, hsib]; rfl) (by rfl)
                · rw [o5, decide_eq_false o6] at hsib
                  simp only [hT, hs, n1, n2, ha, hya, hat, o0, o2, o4, o5, o6, h1, h2, rItem, rTy, evX, Int.reduceEq, Int.reduceLT, Int.reduceLE, Nat.reduceMul, Nat.reduceMod, evW, fn_eq, evR, Nat.reduceAdd, Nat.reduceLT, Nat.reduceLeDiff, reduceIte, Nat.reduceEqDiff, reduceCtorEq, argEnv, eq_self, if_true, if_false]
                  repeat' ((first | rw [guardK_cases] | rw [condK_bool] | rw [guardD_cases]); split <;> simp only [hT, hs, n1, n2, ha, hya, hat, o0, o2, o4, o5, o6, h1, h2, rItem, rTy, evX, Int.reduceEq, Int.reduceLT, Int.reduceLE, Nat.reduceMul, Nat.reduceMod, evW, evR, Nat.reduceAdd, Nat.reduceLT, Nat.reduceLeDiff, reduceIte, Nat.reduceEqDiff, reduceCtorEq, argEnv, eq_self, if_true, if_false, *])
                  exact Sc.ret (bad_sib (by rw [hsib]; simp)) ⟨rfl, rfl⟩
            · have hin : inOrd t y.data x.data = true := by rw [inOrd, decide_eq_true (by omega)]; rfl
              rw [hin, decide_eq_true o2] at hsib
              simp only [hT, hs, n1, n2, ha, hya, hat, o0, o2, o4, hw, rItem, rTy, evX, Int.reduceEq, Int.reduceLT, Int.reduceLE, Nat.reduceMul, Nat.reduceMod, evW, fn_eq, evR, Nat.reduceAdd, Nat.reduceLT, Nat.reduceLeDiff, reduceIte, Nat.reduceEqDiff, reduceCtorEq, argEnv, eq_self, if_true, if_false]
              repeat' ((first | rw [guardK_cases] | rw [condK_bool] | rw [guardD_cases]); split <;> simp only [hT, hs, n1, n2, ha, hya, hat, o0, o2, o4, hw, rItem, rTy, evX, Int.reduceEq, Int.reduceLT, Int.reduceLE, Nat.reduceMul, Nat.reduceMod, evW, evR, Nat.reduceAdd, Nat.reduceLT, Nat.reduceLeDiff, reduceIte, Nat.reduceEqDiff, reduceCtorEq, argEnv, eq_self, if_true, if_false, *])
              exact Sc.next (by rw [okAt, hft, hok, hsib]; simp) (by rfl)
          · simp only [hT, hs, n1, n2, ha, hya, o1, o2, hw, rItem, rTy, evX, Int.reduceEq, Int.reduceLT, Int.reduceLE, Nat.reduceMul, Nat.reduceMod, evW, fn_eq, evR, Nat.reduceAdd, Nat.reduceLT, Nat.reduceLeDiff, reduceIte, Nat.reduceEqDiff, reduceCtorEq, argEnv, eq_self, if_true, if_false]
            repeat' ((first | rw [guardK_cases] | rw [condK_bool] | rw [guardD_cases]); split <;> simp only [hT, hs, n1, n2, ha, hya, o1, o2, hw, rItem, rTy, evX, Int.reduceEq, Int.reduceLT, Int.reduceLE, Nat.reduceMul, Nat.reduceMod, evW, evR, Nat.reduceAdd, Nat.reduceLT, Nat.reduceLeDiff, reduceIte, Nat.reduceEqDiff, reduceCtorEq, argEnv, eq_self, if_true, if_false, *])
            exact Sc.next (by rw [okAt, hft, hok, hsib, decide_eq_true (show y.type < x.type by omega)]; rfl) (by rfl))
    (fun _ E G hE => by
      simp only [c49_l2, hE, hlen, Int.lt_irrefl, evX, Int.reduceEq, Int.reduceLT, Int.reduceLE, Nat.reduceMul, Nat.reduceMod, evW, fn_eq, evR, Nat.reduceAdd, Nat.reduceLT, Nat.reduceLeDiff, reduceIte, Nat.reduceEqDiff, reduceCtorEq, argEnv, eq_self, if_true, if_false]
      repeat' ((first | rw [guardK_cases] | rw [condK_bool] | rw [guardD_cases]); split <;> simp only [c49_l2, hE, hlen, Int.lt_irrefl, evX, Int.reduceEq, Int.reduceLT, Int.reduceLE, Nat.reduceMul, Nat.reduceMod, evW, evR, Nat.reduceAdd, Nat.reduceLT, Nat.reduceLeDiff, reduceIte, Nat.reduceEqDiff, reduceCtorEq, argEnv, eq_self, if_true, if_false, *])
      exact .exit (K := []) rfl) st G hE hH z hz
  rcases L with ⟨h, L⟩ | ⟨i, y, hx, h, _, L⟩
  · exact .inl ⟨tell_pos h, L⟩
  · exact .inr ⟨forest_bad hx h, L⟩
theorem f49 (b : Base) (ht : tysOk b.types = true) (f : List Item) (H : Heap) : cal (evC cprog) false 49 [eBase b, eItems f] H = some (.bool (forestOk b.types f), H) := by
  rw [cal_of at49]
  have hlen := (sItems [] f).len
  simp only [List.length_map] at hlen
  by_cases h : (200 : Int) < (f.length : Int)
  · have hv : forestOk b.types f = false := by unfold forestOk; rw [decide_eq_false (by omega)]; rfl
    rw [hv]
    simp only [c49, eBase, hlen, h, evX, Int.reduceEq, Int.reduceLT, Int.reduceLE, Nat.reduceMul, Nat.reduceMod, evW, fn_eq, evR, Nat.reduceAdd, Nat.reduceLT, Nat.reduceLeDiff, reduceIte, Nat.reduceEqDiff, reduceCtorEq, argEnv, eq_self, if_true, if_false]
    repeat' ((first | rw [guardK_cases] | rw [condK_bool] | rw [guardD_cases]); split <;> simp only [c49, eBase, hlen, h, evX, Int.reduceEq, Int.reduceLT, Int.reduceLE, Nat.reduceMul, Nat.reduceMod, evW, evR, Nat.reduceAdd, Nat.reduceLT, Nat.reduceLeDiff, reduceIte, Nat.reduceEqDiff, reduceCtorEq, argEnv, eq_self, if_true, if_false, *])
  · have hv : forestOk b.types f = tell (∀ (i : Nat) (x : Item), f[i]? = some x → okAt b.types f i x = true) := by unfold forestOk; rw [decide_eq_true (by omega)]; rfl
    rw [hv]
    simp only [c49, eBase, hlen, h, evX, Int.reduceEq, Int.reduceLT, Int.reduceLE, Nat.reduceMul, Nat.reduceMod, evW, fn_eq, evR, Nat.reduceAdd, Nat.reduceLT, Nat.reduceLeDiff, reduceIte, Nat.reduceEqDiff, reduceCtorEq, argEnv, eq_self, if_true, if_false]
    repeat' ((first | rw [guardK_cases] | rw [condK_bool] | rw [guardD_cases]); split <;> simp only [c49, eBase, hlen, h, evX, Int.reduceEq, Int.reduceLT, Int.reduceLE, Nat.reduceMul, Nat.reduceMod, evW, evR, Nat.reduceAdd, Nat.reduceLT, Nat.reduceLeDiff, reduceIte, Nat.reduceEqDiff, reduceCtorEq, argEnv, eq_self, if_true, if_false, *])
    generalize hz : itLim _ _ = z
    rcases k49 b f (by omega) (H ++ [bBase b]) H.length (.mk (by simp)) _ [] (by rfl) (by simp [bBase]) z hz with ⟨g, c, T, G', rfl, _, rfl, hT⟩ | ⟨g, c, T, G', rfl, _, rfl, hT⟩
    · have hfit : AllFit b.types f := fun i x hx => List.all_eq_true.1 g x (List.mem_of_getElem? hx)
      simp only [hT, evX, Int.reduceEq, Int.reduceLT, Int.reduceLE, Nat.reduceMul, Nat.reduceMod, evW, fn_eq, evR, Nat.reduceAdd, Nat.reduceLT, Nat.reduceLeDiff, reduceIte, Nat.reduceEqDiff, reduceCtorEq, argEnv, eq_self, if_true, if_false]
      repeat' ((first | rw [guardK_cases] | rw [condK_bool] | rw [guardD_cases]); split <;> simp only [hT, evX, Int.reduceEq, Int.reduceLT, Int.reduceLE, Nat.reduceMul, Nat.reduceMod, evW, evR, Nat.reduceAdd, Nat.reduceLT, Nat.reduceLeDiff, reduceIte, Nat.reduceEqDiff, reduceCtorEq, argEnv, eq_self, if_true, if_false, *])
      generalize hz : itLim _ _ = z
      rcases m49 b ht f hfit (by omega) (H ++ [bBase b]) H.length (.mk (by simp)) _ G' (by rfl) (by simp) z hz with ⟨g2, c, T, G', rfl, _, rfl⟩ | ⟨g2, c, T, G', rfl, _, rfl, hT⟩
      · rw [g2]
        simp only [evX, Int.reduceEq, Int.reduceLT, Int.reduceLE, Nat.reduceMul, Nat.reduceMod, evW, fn_eq, evR, Nat.reduceAdd, Nat.reduceLT, Nat.reduceLeDiff, reduceIte, Nat.reduceEqDiff, reduceCtorEq, argEnv, eq_self, if_true, if_false]
        repeat' ((first | rw [guardK_cases] | rw [condK_bool] | rw [guardD_cases]); split <;> simp only [evX, Int.reduceEq, Int.reduceLT, Int.reduceLE, Nat.reduceMul, Nat.reduceMod, evW, evR, Nat.reduceAdd, Nat.reduceLT, Nat.reduceLeDiff, reduceIte, Nat.reduceEqDiff, reduceCtorEq, argEnv, eq_self, if_true, if_false, *])
      · rw [g2]
        simp only [hT, evX, Int.reduceEq, Int.reduceLT, Int.reduceLE, Nat.reduceMul, Nat.reduceMod, evW, fn_eq, evR, Nat.reduceAdd, Nat.reduceLT, Nat.reduceLeDiff, reduceIte, Nat.reduceEqDiff, reduceCtorEq, argEnv, eq_self, if_true, if_false]
        repeat' ((first | rw [guardK_cases] | rw [condK_bool] | rw [guardD_cases]); split <;> simp only [hT, evX, Int.reduceEq, Int.reduceLT, Int.reduceLE, Nat.reduceMul, Nat.reduceMod, evW, evR, Nat.reduceAdd, Nat.reduceLT, Nat.reduceLeDiff, reduceIte, Nat.reduceEqDiff, reduceCtorEq, argEnv, eq_self, if_true, if_false, *])
    · have : tell (∀ (i : Nat) (x : Item), f[i]? = some x → okAt b.types f i x = true) = false := by
        obtain ⟨x, hx, h⟩ := List.all_eq_false.1 g
        obtain ⟨i, hi⟩ := List.getElem?_of_mem hx
        exact forest_bad hi (by simp [okAt, h])
      rw [this]
      simp only [hT, evX, Int.reduceEq, Int.reduceLT, Int.reduceLE, Nat.reduceMul, Nat.reduceMod, evW, fn_eq, evR, Nat.reduceAdd, Nat.reduceLT, Nat.reduceLeDiff, reduceIte, Nat.reduceEqDiff, reduceCtorEq, argEnv, eq_self, if_true, if_false]
      repeat' ((first | rw [guardK_cases] | rw [condK_bool] | rw [guardD_cases]); split <;> simp only [hT, evX, Int.reduceEq, Int.reduceLT, Int.reduceLE, Nat.reduceMul, Nat.reduceMod, evW, evR, Nat.reduceAdd, Nat.reduceLT, Nat.reduceLeDiff, reduceIte, Nat.reduceEqDiff, reduceCtorEq, argEnv, eq_self, if_true, if_false, *])
theorem f81 (b : Base) (hb : b.Ok) (f : List Item) (H : Heap) : cal (evC cprog) false 81 [eBase b, eItems f] H = some (bEr (validB b && forestOk b.types f) (if validB b = true then 0 else 100), H) := by
  rw [cal_of at81]
  have h1 := f43 b hb
  simp only [eBase] at h1
  cases hv : validB b with
  | false =>
    simp only [c81, eBase, cells_eItems, isTup_eItems, h1, hv, bEr, evX, Int.reduceEq, Int.reduceLT, Int.reduceLE, Nat.reduceMul, Nat.reduceMod, evW, fn_eq, evR, Nat.reduceAdd, Nat.reduceLT, Nat.reduceLeDiff, reduceIte, Nat.reduceEqDiff, reduceCtorEq, argEnv, eq_self, if_true, if_false]
    repeat' ((first | rw [guardK_cases] | rw [condK_bool] | rw [guardD_cases]); split <;> simp only [c81, eBase, cells_eItems, isTup_eItems, h1, hv, bEr, evX, Int.reduceEq, Int.reduceLT, Int.reduceLE, Nat.reduceMul, Nat.reduceMod, evW, evR, Nat.reduceAdd, Nat.reduceLT, Nat.reduceLeDiff, reduceIte, Nat.reduceEqDiff, reduceCtorEq, argEnv, eq_self, if_true, if_false, *])
  | true =>
    have h2 := f49 b (valid_tys hv) f
    simp only [eBase] at h2
    simp only [c81, eBase, cells_eItems, isTup_eItems, h1, hv, h2, bEr, evX, Int.reduceEq, Int.reduceLT, Int.reduceLE, Nat.reduceMul, Nat.reduceMod, evW, fn_eq, evR, Nat.reduceAdd, Nat.reduceLT, Nat.reduceLeDiff, reduceIte, Nat.reduceEqDiff, reduceCtorEq, argEnv, eq_self, if_true, if_false]
    repeat' ((first | rw [guardK_cases] | rw [condK_bool] | rw [guardD_cases]); split <;> simp only [c81, eBase, cells_eItems, isTup_eItems, h1, hv, h2, bEr, evX, Int.reduceEq, Int.reduceLT, Int.reduceLE, Nat.reduceMul, Nat.reduceMod, evW, evR, Nat.reduceAdd, Nat.reduceLT, Nat.reduceLeDiff, reduceIte, Nat.reduceEqDiff, reduceCtorEq, argEnv, eq_self, if_true, if_false, *])
end Go.Proofs.YtbdpceigmnpoaaaGreatDoor.Code

/- plain: the same lists; Small. -/
set_option linter.unusedSimpArgs false
set_option linter.unusedVariables false
namespace Go.Proofs.YtbdpceigmnpoaaaGreatDoor.Code
open Go.Proofs.YtbdpceigmnpoaaaGreatDoor.Ev

def sameI (x y : Item) : Bool := decide (x.type = y.type) && decide (x.data = y.data)
theorem sameI_eq {x y : Item} : sameI x y = true ↔ x = y := by
  cases x; cases y; simp [sameI]
theorem eqsItem (n : Bool) (x y : Item) : eqsK n [0, 2] (some (.agg [.int .i64 x.type, .str x.data])) (some (.agg [.int .i64 y.type, .str y.data])) = some (.bool (if n = true then !(sameI x y) else sameI x y)) := by
  simp only [eqsK, cellsEq, cellEq, str_beq, if_true, sameI, Bool.and_true, Option.map_some]
noncomputable def same (f g : List Item) : Bool := tell (f = g)
theorem same_no {f g : List Item} {i : Nat} {x y : Item} (hx : f[i]? = some x) (hy : g[i]? = some y) (h : sameI x y = false) : same f g = false := tell_neg fun e => by
  subst e; rw [hx] at hy; cases hy
  rw [sameI_eq.2 rfl] at h; cases h
theorem same_yes {f g : List Item} (hl : f.length = g.length) (h : ∀ (i : Nat) (x : Item), f[i]? = some x → (match g[i]? with | some y => sameI x y | none => false) = true) : same f g = true := tell_pos <| by
  apply List.ext_getElem? 
  intro i
  cases hx : f[i]? with
  | none =>
    have := List.getElem?_eq_none_iff.1 hx
    rw [List.getElem?_eq_none (by omega)]
  | some x =>
    have h1 := h i x hx
    cases hy : g[i]? with
    | none => simp [hy] at h1
    | some y =>
      simp only [hy] at h1
      rw [sameI_eq.1 h1]
theorem same_len {f g : List Item} (hl : f.length ≠ g.length) : same f g = false := tell_neg fun e => hl (by rw [e])
def okS (g : List Item) (i : Nat) (x : Item) : Bool := match g[i]? with
  | some y => sameI x y
  | none => false
theorem f101 (f g : List Item) (hf : f.length < 9223372036854775807) (H : Heap) : cal (evC cprog) false 101 [eItems f, eItems g] H = some (.bool (same f g), H) := by
  rw [cal_of at101]
  have h1 := (sItems [] f).len
  have h2 := (sItems [] g).len
  simp only [List.length_map] at h1 h2
  by_cases hl : f.length = g.length
  · have hl' : ((f.length : Int) = (g.length : Int)) := by omega
    simp only [c101, h1, h2, hl', evX, Int.reduceEq, Int.reduceLT, Int.reduceLE, Nat.reduceMul, Nat.reduceMod, evW, fn_eq, evR, Nat.reduceAdd, Nat.reduceLT, Nat.reduceLeDiff, reduceIte, Nat.reduceEqDiff, reduceCtorEq, argEnv, eq_self, if_true, if_false]
    repeat' ((first | rw [guardK_cases] | rw [condK_bool] | rw [guardD_cases]); split <;> simp only [c101, h1, h2, hl', evX, Int.reduceEq, Int.reduceLT, Int.reduceLE, Nat.reduceMul, Nat.reduceMod, evW, evR, Nat.reduceAdd, Nat.reduceLT, Nat.reduceLeDiff, reduceIte, Nat.reduceEqDiff, reduceCtorEq, argEnv, eq_self, if_true, if_false, *])
    generalize hz : itLim _ _ = z
    have L := scan_rule f (okS g) [0, 1, 12, 13] (fun i => [(0, eItems f), (1, eItems g), (12, .int .i64 (g.length : Int)), (13, .int .i64 (i : Int))]) H [] (evCode (evC cprog) itLim c101_l0) (fun c T => c = .exit 0) (fun _ _ c T => c = .ret ∧ get T 4 = some (.bool false))
      (fun i x hx E G hE => by
        have hlt : i < f.length := (List.getElem?_eq_some_iff.1 hx).1
        have hi : (i : Int) < (g.length : Int) := by omega
        obtain ⟨y, hy⟩ : ∃ y, g[i]? = some y := ⟨_, List.getElem?_eq_getElem (by omega)⟩
        have ha := aItem hx
        have ha' := aItem hy
        have hok : okS g i x = sameI x y := by simp only [okS, hy]
        rw [hok]
        cases hs : sameI x y with
        | true =>
          simp only [c101_l0, hE, hi, ha, ha', eqsItem, hs, rItem, wrapS hlt hf, evX, Int.reduceEq, Int.reduceLT, Int.reduceLE, Nat.reduceMul, Nat.reduceMod, evW, fn_eq, evR, Nat.reduceAdd, Nat.reduceLT, Nat.reduceLeDiff, reduceIte, Nat.reduceEqDiff, reduceCtorEq, argEnv, eq_self, if_true, if_false]
          repeat' ((first | rw [guardK_cases] | rw [condK_bool] | rw [guardD_cases]); split <;> simp only [c101_l0, hE, hi, ha, ha', eqsItem, hs, rItem, wrapS hlt hf, evX, Int.reduceEq, Int.reduceLT, Int.reduceLE, Nat.reduceMul, Nat.reduceMod, evW, evR, Nat.reduceAdd, Nat.reduceLT, Nat.reduceLeDiff, reduceIte, Nat.reduceEqDiff, reduceCtorEq, argEnv, eq_self, if_true, if_false, *])
          exact Sc.next rfl (by rfl)
        | false =>
          simp only [c101_l0, hE, hi, ha, ha', eqsItem, hs, rItem, evX, Int.reduceEq, Int.reduceLT, Int.reduceLE, Nat.reduceMul, Nat.reduceMod, evW, fn_eq, evR, Nat.reduceAdd, Nat.reduceLT, Nat.reduceLeDiff, reduceIte, Nat.reduceEqDiff, reduceCtorEq, argEnv, eq_self, if_true, if_false]
          repeat' ((first | rw [guardK_cases] | rw [condK_bool] | rw [guardD_cases]); split <;> simp only [c101_l0, hE, hi, ha, ha', eqsItem, hs, rItem, evX, Int.reduceEq, Int.reduceLT, Int.reduceLE, Nat.reduceMul, Nat.reduceMod, evW, evR, Nat.reduceAdd, Nat.reduceLT, Nat.reduceLeDiff, reduceIte, Nat.reduceEqDiff, reduceCtorEq, argEnv, eq_self, if_true, if_false, *])
          exact Sc.ret rfl ⟨rfl, rfl⟩)
      (fun E G hE => by
        rw [hl] at hE
        simp only [c101_l0, hE, Int.lt_irrefl, evX, Int.reduceEq, Int.reduceLT, Int.reduceLE, Nat.reduceMul, Nat.reduceMod, evW, fn_eq, evR, Nat.reduceAdd, Nat.reduceLT, Nat.reduceLeDiff, reduceIte, Nat.reduceEqDiff, reduceCtorEq, argEnv, eq_self, if_true, if_false]
        repeat' ((first | rw [guardK_cases] | rw [condK_bool] | rw [guardD_cases]); split <;> simp only [c101_l0, hE, Int.lt_irrefl, evX, Int.reduceEq, Int.reduceLT, Int.reduceLE, Nat.reduceMul, Nat.reduceMod, evW, evR, Nat.reduceAdd, Nat.reduceLT, Nat.reduceLeDiff, reduceIte, Nat.reduceEqDiff, reduceCtorEq, argEnv, eq_self, if_true, if_false, *])
        exact .exit (K := []) rfl) _ [] (by rfl) (by simp) z hz
    rcases L with ⟨ha, c, T, G, rfl, _, rfl⟩ | ⟨i, r, hx, ha, _, c, T, G, rfl, _, rfl, hT⟩
    · rw [same_yes hl ha]
      simp only [evX, Int.reduceEq, Int.reduceLT, Int.reduceLE, Nat.reduceMul, Nat.reduceMod, evW, fn_eq, evR, Nat.reduceAdd, Nat.reduceLT, Nat.reduceLeDiff, reduceIte, Nat.reduceEqDiff, reduceCtorEq, argEnv, eq_self, if_true, if_false]
      repeat' ((first | rw [guardK_cases] | rw [condK_bool] | rw [guardD_cases]); split <;> simp only [evX, Int.reduceEq, Int.reduceLT, Int.reduceLE, Nat.reduceMul, Nat.reduceMod, evW, evR, Nat.reduceAdd, Nat.reduceLT, Nat.reduceLeDiff, reduceIte, Nat.reduceEqDiff, reduceCtorEq, argEnv, eq_self, if_true, if_false, *])
    · have hlt : i < f.length := (List.getElem?_eq_some_iff.1 hx).1
      obtain ⟨y, hy⟩ : ∃ y, g[i]? = some y := ⟨_, List.getElem?_eq_getElem (by omega)⟩
      rw [same_no hx hy (by simpa only [okS, hy] using ha)]
      simp only [hT, evX, Int.reduceEq, Int.reduceLT, Int.reduceLE, Nat.reduceMul, Nat.reduceMod, evW, fn_eq, evR, Nat.reduceAdd, Nat.reduceLT, Nat.reduceLeDiff, reduceIte, Nat.reduceEqDiff, reduceCtorEq, argEnv, eq_self, if_true, if_false]
      repeat' ((first | rw [guardK_cases] | rw [condK_bool] | rw [guardD_cases]); split <;> simp only [hT, evX, Int.reduceEq, Int.reduceLT, Int.reduceLE, Nat.reduceMul, Nat.reduceMod, evW, evR, Nat.reduceAdd, Nat.reduceLT, Nat.reduceLeDiff, reduceIte, Nat.reduceEqDiff, reduceCtorEq, argEnv, eq_self, if_true, if_false, *])
  · have hl' : ¬ ((f.length : Int) = (g.length : Int)) := by omega
    rw [same_len hl]
    simp only [c101, h1, h2, hl', evX, Int.reduceEq, Int.reduceLT, Int.reduceLE, Nat.reduceMul, Nat.reduceMod, evW, fn_eq, evR, Nat.reduceAdd, Nat.reduceLT, Nat.reduceLeDiff, reduceIte, Nat.reduceEqDiff, reduceCtorEq, argEnv, eq_self, if_true, if_false]
    repeat' ((first | rw [guardK_cases] | rw [condK_bool] | rw [guardD_cases]); split <;> simp only [c101, h1, h2, hl', evX, Int.reduceEq, Int.reduceLT, Int.reduceLE, Nat.reduceMul, Nat.reduceMod, evW, evR, Nat.reduceAdd, Nat.reduceLT, Nat.reduceLeDiff, reduceIte, Nat.reduceEqDiff, reduceCtorEq, argEnv, eq_self, if_true, if_false, *])
theorem f58 (f g : List Item) (hf : f.length < 9223372036854775807) (H : Heap) : cal (evC cprog) false 58 [eItems f, eItems g] H = some (.bool (same f g), H) := by
  rw [cal_of at58]
  have h := f101 f g hf
  simp only [c58, h, evX, Int.reduceEq, Int.reduceLT, Int.reduceLE, Nat.reduceMul, Nat.reduceMod, evW, fn_eq, evR, Nat.reduceAdd, Nat.reduceLT, Nat.reduceLeDiff, reduceIte, Nat.reduceEqDiff, reduceCtorEq, argEnv, eq_self, if_true, if_false]
  repeat' ((first | rw [guardK_cases] | rw [condK_bool] | rw [guardD_cases]); split <;> simp only [c58, h, evX, Int.reduceEq, Int.reduceLT, Int.reduceLE, Nat.reduceMul, Nat.reduceMod, evW, evR, Nat.reduceAdd, Nat.reduceLT, Nat.reduceLeDiff, reduceIte, Nat.reduceEqDiff, reduceCtorEq, argEnv, eq_self, if_true, if_false, *])
theorem f23 (f g : List Item) (hf : f.length < 9223372036854775807) (H : Heap) : cal (evC cprog) false 23 [eItems f, eItems g] H = some (.bool (same f g), H) := by
  rw [cal_of at23]
  have h1 := (sItems [] f).len
  have h2 := (sItems [] g).len
  simp only [List.length_map] at h1 h2
  by_cases hl : f.length = g.length
  · have hl' : ((f.length : Int) = (g.length : Int)) := by omega
    simp only [c23, h1, h2, hl', evX, Int.reduceEq, Int.reduceLT, Int.reduceLE, Nat.reduceMul, Nat.reduceMod, evW, fn_eq, evR, Nat.reduceAdd, Nat.reduceLT, Nat.reduceLeDiff, reduceIte, Nat.reduceEqDiff, reduceCtorEq, argEnv, eq_self, if_true, if_false]
    repeat' ((first | rw [guardK_cases] | rw [condK_bool] | rw [guardD_cases]); split <;> simp only [c23, h1, h2, hl', evX, Int.reduceEq, Int.reduceLT, Int.reduceLE, Nat.reduceMul, Nat.reduceMod, evW, evR, Nat.reduceAdd, Nat.reduceLT, Nat.reduceLeDiff, reduceIte, Nat.reduceEqDiff, reduceCtorEq, argEnv, eq_self, if_true, if_false, *])
    generalize hz : itLim _ _ = z
    have L := scan_rule f (okS g) [0, 1, 5] (fun i => [(0, eItems f), (1, eItems g), (5, .int .i64 (i : Int))]) H [] (evCode (evC cprog) itLim c23_l0) (fun c T => c = .exit 0) (fun _ _ c T => c = .ret ∧ get T 4 = some (.bool false))
      (fun i x hx E G hE => by
        have hlt : i < f.length := (List.getElem?_eq_some_iff.1 hx).1
        have hi : (i : Int) < (f.length : Int) := by omega
        obtain ⟨y, hy⟩ : ∃ y, g[i]? = some y := ⟨_, List.getElem?_eq_getElem (by omega)⟩
        have ha := aItem hx
        have ha' := aItem hy
        have hok : okS g i x = sameI x y := by simp only [okS, hy]
        rw [hok]
        cases hs : sameI x y with
        | true =>
          simp only [c23_l0, hE, hi, h1, ha, ha', eqsItem, hs, rItem, wrapS hlt hf, evX, Int.reduceEq, Int.reduceLT, Int.reduceLE, Nat.reduceMul, Nat.reduceMod, evW, fn_eq, evR, Nat.reduceAdd, Nat.reduceLT, Nat.reduceLeDiff, reduceIte, Nat.reduceEqDiff, reduceCtorEq, argEnv, eq_self, if_true, if_false]
          repeat' ((first | rw [guardK_cases] | rw [condK_bool] | rw [guardD_cases]); split <;> simp only [c23_l0, hE, hi, h1, ha, ha', eqsItem, hs, rItem, wrapS hlt hf, evX, Int.reduceEq, Int.reduceLT, Int.reduceLE, Nat.reduceMul, Nat.reduceMod, evW, evR, Nat.reduceAdd, Nat.reduceLT, Nat.reduceLeDiff, reduceIte, Nat.reduceEqDiff, reduceCtorEq, argEnv, eq_self, if_true, if_false, *])
          exact Sc.next rfl (by rfl)
        | false =>
          simp only [c23_l0, hE, hi, h1, ha, ha', eqsItem, hs, rItem, evX, Int.reduceEq, Int.reduceLT, Int.reduceLE, Nat.reduceMul, Nat.reduceMod, evW, fn_eq, evR, Nat.reduceAdd, Nat.reduceLT, Nat.reduceLeDiff, reduceIte, Nat.reduceEqDiff, reduceCtorEq, argEnv, eq_self, if_true, if_false]
          repeat' ((first | rw [guardK_cases] | rw [condK_bool] | rw [guardD_cases]); split <;> simp only [c23_l0, hE, hi, h1, ha, ha', eqsItem, hs, rItem, evX, Int.reduceEq, Int.reduceLT, Int.reduceLE, Nat.reduceMul, Nat.reduceMod, evW, evR, Nat.reduceAdd, Nat.reduceLT, Nat.reduceLeDiff, reduceIte, Nat.reduceEqDiff, reduceCtorEq, argEnv, eq_self, if_true, if_false, *])
          exact Sc.ret rfl ⟨rfl, rfl⟩)
      (fun E G hE => by
        simp only [c23_l0, hE, h1, Int.lt_irrefl, evX, Int.reduceEq, Int.reduceLT, Int.reduceLE, Nat.reduceMul, Nat.reduceMod, evW, fn_eq, evR, Nat.reduceAdd, Nat.reduceLT, Nat.reduceLeDiff, reduceIte, Nat.reduceEqDiff, reduceCtorEq, argEnv, eq_self, if_true, if_false]
        repeat' ((first | rw [guardK_cases] | rw [condK_bool] | rw [guardD_cases]); split <;> simp only [c23_l0, hE, h1, Int.lt_irrefl, evX, Int.reduceEq, Int.reduceLT, Int.reduceLE, Nat.reduceMul, Nat.reduceMod, evW, evR, Nat.reduceAdd, Nat.reduceLT, Nat.reduceLeDiff, reduceIte, Nat.reduceEqDiff, reduceCtorEq, argEnv, eq_self, if_true, if_false, *])
        exact .exit (K := []) rfl) _ [] (by rfl) (by simp) z hz
    rcases L with ⟨ha, c, T, G, rfl, _, rfl⟩ | ⟨i, r, hx, ha, _, c, T, G, rfl, _, rfl, hT⟩
    · rw [same_yes hl ha]
      simp only [evX, Int.reduceEq, Int.reduceLT, Int.reduceLE, Nat.reduceMul, Nat.reduceMod, evW, fn_eq, evR, Nat.reduceAdd, Nat.reduceLT, Nat.reduceLeDiff, reduceIte, Nat.reduceEqDiff, reduceCtorEq, argEnv, eq_self, if_true, if_false]
      repeat' ((first | rw [guardK_cases] | rw [condK_bool] | rw [guardD_cases]); split <;> simp only [evX, Int.reduceEq, Int.reduceLT, Int.reduceLE, Nat.reduceMul, Nat.reduceMod, evW, evR, Nat.reduceAdd, Nat.reduceLT, Nat.reduceLeDiff, reduceIte, Nat.reduceEqDiff, reduceCtorEq, argEnv, eq_self, if_true, if_false, *])
    · have hlt : i < f.length := (List.getElem?_eq_some_iff.1 hx).1
      obtain ⟨y, hy⟩ : ∃ y, g[i]? = some y := ⟨_, List.getElem?_eq_getElem (by omega)⟩
      rw [same_no hx hy (by simpa only [okS, hy] using ha)]
      simp only [hT, evX, Int.reduceEq, Int.reduceLT, Int.reduceLE, Nat.reduceMul, Nat.reduceMod, evW, fn_eq, evR, Nat.reduceAdd, Nat.reduceLT, Nat.reduceLeDiff, reduceIte, Nat.reduceEqDiff, reduceCtorEq, argEnv, eq_self, if_true, if_false]
      repeat' ((first | rw [guardK_cases] | rw [condK_bool] | rw [guardD_cases]); split <;> simp only [hT, evX, Int.reduceEq, Int.reduceLT, Int.reduceLE, Nat.reduceMul, Nat.reduceMod, evW, evR, Nat.reduceAdd, Nat.reduceLT, Nat.reduceLeDiff, reduceIte, Nat.reduceEqDiff, reduceCtorEq, argEnv, eq_self, if_true, if_false, *])
  · have hl' : ¬ ((f.length : Int) = (g.length : Int)) := by omega
    rw [same_len hl]
    simp only [c23, h1, h2, hl', evX, Int.reduceEq, Int.reduceLT, Int.reduceLE, Nat.reduceMul, Nat.reduceMod, evW, fn_eq, evR, Nat.reduceAdd, Nat.reduceLT, Nat.reduceLeDiff, reduceIte, Nat.reduceEqDiff, reduceCtorEq, argEnv, eq_self, if_true, if_false]
    repeat' ((first | rw [guardK_cases] | rw [condK_bool] | rw [guardD_cases]); split <;> simp only [c23, h1, h2, hl', evX, Int.reduceEq, Int.reduceLT, Int.reduceLE, Nat.reduceMul, Nat.reduceMod, evW, evR, Nat.reduceAdd, Nat.reduceLT, Nat.reduceLeDiff, reduceIte, Nat.reduceEqDiff, reduceCtorEq, argEnv, eq_self, if_true, if_false, *])
def small (b : Base) (f : List Item) : Bool :=
  b.types.all (fun t => decide ((t.fields.length : Int) ≤ 10)) && f.all (fun x => decide ((x.data.size : Int) ≤ 100)) && decide ((b.types.length : Int) ≤ 12) && decide ((b.indexes.length : Int) ≤ 6) && decide ((f.length : Int) ≤ 60)
theorem f11 (b : Base) (hb : b.Ok) (f : List Item) (hf : f.length < 9223372036854775807) (H : Heap) : cal (evC cprog) false 11 [eBase b, eItems f] H = some (.bool (small b f), H) := by
  rw [cal_of at11]
  have h1 := (sTys [] b.types).len
  have h2 := (sItems [] f).len
  have h3 := (sSes [] b.indexes).len
  simp only [List.length_map] at h1 h2 h3
  simp only [c11, eBase, evX, Int.reduceEq, Int.reduceLT, Int.reduceLE, Nat.reduceMul, Nat.reduceMod, evW, fn_eq, evR, Nat.reduceAdd, Nat.reduceLT, Nat.reduceLeDiff, reduceIte, Nat.reduceEqDiff, reduceCtorEq, argEnv, eq_self, if_true, if_false]
  repeat' ((first | rw [guardK_cases] | rw [condK_bool] | rw [guardD_cases]); split <;> simp only [c11, eBase, evX, Int.reduceEq, Int.reduceLT, Int.reduceLE, Nat.reduceMul, Nat.reduceMod, evW, evR, Nat.reduceAdd, Nat.reduceLT, Nat.reduceLeDiff, reduceIte, Nat.reduceEqDiff, reduceCtorEq, argEnv, eq_self, if_true, if_false, *])
  generalize hz : itLim _ _ = z
  have key : ∀ (H : Heap) (b1 : Nat), Sits H b1 (bBase b) → ∀ (st : St) (G : Heap), keepEnv st.1 [1, 2, 5] = [(1, eItems f), (2, .ptr b1 0 4 0 0), (5, .int .i64 0)] → st.2 = H ++ ([] ++ G) → ∀ z, itLim (evCode (evC cprog) itLim c11_l0) st = z →
      (b.types.all (fun t => decide ((t.fields.length : Int) ≤ 10)) = true ∧ Lv H [] (fun c T => c = .exit 0 ∧ keepEnv T [1, 2] = [(1, eItems f), (2, .ptr b1 0 4 0 0)]) z) ∨ (b.types.all (fun t => decide ((t.fields.length : Int) ≤ 10)) = false ∧ Lv H [] (fun c T => c = .ret ∧ get T 4 = some (.bool false)) z) := by
    intro H b1 hs st G hE hH z hz
    simp only [bBase, Sits] at hs
    exact all_rule b.types _ [1, 2, 5] (fun i => [(1, eItems f), (2, .ptr b1 0 4 0 0), (5, .int .i64 (i : Int))]) H [] (evCode (evC cprog) itLim c11_l0) _ _
      (fun i t hx E G hE => by
        have hlt : i < b.types.length := (List.getElem?_eq_some_iff.1 hx).1
        have hi : (i : Int) < (b.types.length : Int) := by omega
        have ha := aTy hx
        have h4 := (sFds [] t.fields).len
        simp only [List.length_map] at h4
        simp only [c11_l0, hE, hs, hi, h1, ha, h4, rTy, wrapS hlt hb.types, evX, Int.reduceEq, Int.reduceLT, Int.reduceLE, Nat.reduceMul, Nat.reduceMod, evW, fn_eq, evR, Nat.reduceAdd, Nat.reduceLT, Nat.reduceLeDiff, reduceIte, Nat.reduceEqDiff, reduceCtorEq, argEnv, eq_self, if_true, if_false]
        repeat' ((first | rw [guardK_cases] | rw [condK_bool] | rw [guardD_cases]); split <;> simp only [c11_l0, hE, hs, hi, h1, ha, h4, rTy, wrapS hlt hb.types, evX, Int.reduceEq, Int.reduceLT, Int.reduceLE, Nat.reduceMul, Nat.reduceMod, evW, evR, Nat.reduceAdd, Nat.reduceLT, Nat.reduceLeDiff, reduceIte, Nat.reduceEqDiff, reduceCtorEq, argEnv, eq_self, if_true, if_false, *])
        all_goals first | exact Sc.next (by first | (simp_all [Int.not_le]; done) | (simp_all [Int.not_le]; intros; omega)) (by rfl) | exact Sc.ret (by first | (simp_all [Int.not_le]; done) | (simp_all [Int.not_le]; intros; omega)) ⟨rfl, by first | rfl | exact ⟨rfl, rfl, rfl⟩⟩ | exact Sc.exit (by first | (simp_all [Int.not_le]; done) | (simp_all [Int.not_le]; intros; omega)) ⟨rfl, rfl⟩)
      (fun E G hE => by
        simp only [c11_l0, hE, hs, h1, Int.lt_irrefl, evX, Int.reduceEq, Int.reduceLT, Int.reduceLE, Nat.reduceMul, Nat.reduceMod, evW, fn_eq, evR, Nat.reduceAdd, Nat.reduceLT, Nat.reduceLeDiff, reduceIte, Nat.reduceEqDiff, reduceCtorEq, argEnv, eq_self, if_true, if_false]
        repeat' ((first | rw [guardK_cases] | rw [condK_bool] | rw [guardD_cases]); split <;> simp only [c11_l0, hE, hs, h1, Int.lt_irrefl, evX, Int.reduceEq, Int.reduceLT, Int.reduceLE, Nat.reduceMul, Nat.reduceMod, evW, evR, Nat.reduceAdd, Nat.reduceLT, Nat.reduceLeDiff, reduceIte, Nat.reduceEqDiff, reduceCtorEq, argEnv, eq_self, if_true, if_false, *])
        exact .exit (K := []) ⟨rfl, by rfl⟩) st G hE hH z hz
  have key2 : ∀ (H : Heap) (b1 : Nat), Sits H b1 (bBase b) → ∀ (st : St) (G : Heap), keepEnv st.1 [1, 2, 6] = [(1, eItems f), (2, .ptr b1 0 4 0 0), (6, .int .i64 0)] → st.2 = H ++ ([] ++ G) → ∀ z, itLim (evCode (evC cprog) itLim c11_l1) st = z →
      (f.all (fun x => decide ((x.data.size : Int) ≤ 100)) = true ∧ Lv H [] (fun c T => c = .exit 2 ∧ keepEnv T [1, 2] = [(1, eItems f), (2, .ptr b1 0 4 0 0)]) z) ∨ (f.all (fun x => decide ((x.data.size : Int) ≤ 100)) = false ∧ Lv H [] (fun c T => c = .ret ∧ get T 4 = some (.bool false)) z) := by
    intro H b1 hs st G hE hH z hz
    exact all_rule f _ [1, 2, 6] (fun i => [(1, eItems f), (2, .ptr b1 0 4 0 0), (6, .int .i64 (i : Int))]) H [] (evCode (evC cprog) itLim c11_l1) _ _
      (fun i t hx E G hE => by
        have hlt : i < f.length := (List.getElem?_eq_some_iff.1 hx).1
        have hi : (i : Int) < (f.length : Int) := by omega
        have ha := aItem hx
        simp only [c11_l1, hE, hi, h2, ha, rItem, wrapS hlt hf, evX, Int.reduceEq, Int.reduceLT, Int.reduceLE, Nat.reduceMul, Nat.reduceMod, evW, fn_eq, evR, Nat.reduceAdd, Nat.reduceLT, Nat.reduceLeDiff, reduceIte, Nat.reduceEqDiff, reduceCtorEq, argEnv, eq_self, if_true, if_false]
        repeat' ((first | rw [guardK_cases] | rw [condK_bool] | rw [guardD_cases]); split <;> simp only [c11_l1, hE, hi, h2, ha, rItem, wrapS hlt hf, evX, Int.reduceEq, Int.reduceLT, Int.reduceLE, Nat.reduceMul, Nat.reduceMod, evW, evR, Nat.reduceAdd, Nat.reduceLT, Nat.reduceLeDiff, reduceIte, Nat.reduceEqDiff, reduceCtorEq, argEnv, eq_self, if_true, if_false, *])
        all_goals first | exact Sc.next (by first | (simp_all [Int.not_le]; done) | (simp_all [Int.not_le]; intros; omega)) (by rfl) | exact Sc.ret (by first | (simp_all [Int.not_le]; done) | (simp_all [Int.not_le]; intros; omega)) ⟨rfl, by first | rfl | exact ⟨rfl, rfl, rfl⟩⟩ | exact Sc.exit (by first | (simp_all [Int.not_le]; done) | (simp_all [Int.not_le]; intros; omega)) ⟨rfl, rfl⟩)
      (fun E G hE => by
        simp only [c11_l1, hE, h2, Int.lt_irrefl, evX, Int.reduceEq, Int.reduceLT, Int.reduceLE, Nat.reduceMul, Nat.reduceMod, evW, fn_eq, evR, Nat.reduceAdd, Nat.reduceLT, Nat.reduceLeDiff, reduceIte, Nat.reduceEqDiff, reduceCtorEq, argEnv, eq_self, if_true, if_false]
        repeat' ((first | rw [guardK_cases] | rw [condK_bool] | rw [guardD_cases]); split <;> simp only [c11_l1, hE, h2, Int.lt_irrefl, evX, Int.reduceEq, Int.reduceLT, Int.reduceLE, Nat.reduceMul, Nat.reduceMod, evW, evR, Nat.reduceAdd, Nat.reduceLT, Nat.reduceLeDiff, reduceIte, Nat.reduceEqDiff, reduceCtorEq, argEnv, eq_self, if_true, if_false, *])
        exact .exit (K := []) ⟨rfl, by rfl⟩) st G hE hH z hz
  have hs : ∀ X, (H ++ ([bBase b] ++ X))[H.length]? = some (bBase b) := fun X => by simp
  simp only [bBase] at hs
  rcases key (H ++ [bBase b]) H.length (.mk (by simp)) _ [] (by rfl) (by simp [bBase]) z hz with ⟨g, c, T, G', rfl, _, rfl, hT⟩ | ⟨g, c, T, G', rfl, _, rfl, hT⟩
  · simp only [hT, evX, Int.reduceEq, Int.reduceLT, Int.reduceLE, Nat.reduceMul, Nat.reduceMod, evW, fn_eq, evR, Nat.reduceAdd, Nat.reduceLT, Nat.reduceLeDiff, reduceIte, Nat.reduceEqDiff, reduceCtorEq, argEnv, eq_self, if_true, if_false]
    repeat' ((first | rw [guardK_cases] | rw [condK_bool] | rw [guardD_cases]); split <;> simp only [hT, evX, Int.reduceEq, Int.reduceLT, Int.reduceLE, Nat.reduceMul, Nat.reduceMod, evW, evR, Nat.reduceAdd, Nat.reduceLT, Nat.reduceLeDiff, reduceIte, Nat.reduceEqDiff, reduceCtorEq, argEnv, eq_self, if_true, if_false, *])
    generalize hz : itLim _ _ = z
    rcases key2 (H ++ [bBase b]) H.length (.mk (by simp)) _ G' (by rfl) (by simp) z hz with ⟨g2, c, T, G', rfl, _, rfl, hT⟩ | ⟨g2, c, T, G', rfl, _, rfl, hT⟩
    · simp only [hT, hs, bBase, h1, h2, h3, evX, Int.reduceEq, Int.reduceLT, Int.reduceLE, Nat.reduceMul, Nat.reduceMod, evW, fn_eq, evR, Nat.reduceAdd, Nat.reduceLT, Nat.reduceLeDiff, reduceIte, Nat.reduceEqDiff, reduceCtorEq, argEnv, eq_self, if_true, if_false]
      repeat' ((first | rw [guardK_cases] | rw [condK_bool] | rw [guardD_cases]); split <;> simp only [hT, hs, bBase, h1, h2, h3, evX, Int.reduceEq, Int.reduceLT, Int.reduceLE, Nat.reduceMul, Nat.reduceMod, evW, evR, Nat.reduceAdd, Nat.reduceLT, Nat.reduceLeDiff, reduceIte, Nat.reduceEqDiff, reduceCtorEq, argEnv, eq_self, if_true, if_false, *])
      all_goals (simp_all [small]; try omega)
    · simp only [hT, evX, Int.reduceEq, Int.reduceLT, Int.reduceLE, Nat.reduceMul, Nat.reduceMod, evW, fn_eq, evR, Nat.reduceAdd, Nat.reduceLT, Nat.reduceLeDiff, reduceIte, Nat.reduceEqDiff, reduceCtorEq, argEnv, eq_self, if_true, if_false]
      repeat' ((first | rw [guardK_cases] | rw [condK_bool] | rw [guardD_cases]); split <;> simp only [hT, evX, Int.reduceEq, Int.reduceLT, Int.reduceLE, Nat.reduceMul, Nat.reduceMod, evW, evR, Nat.reduceAdd, Nat.reduceLT, Nat.reduceLeDiff, reduceIte, Nat.reduceEqDiff, reduceCtorEq, argEnv, eq_self, if_true, if_false, *])
      simp [small, g2]
  · simp only [hT, evX, Int.reduceEq, Int.reduceLT, Int.reduceLE, Nat.reduceMul, Nat.reduceMod, evW, fn_eq, evR, Nat.reduceAdd, Nat.reduceLT, Nat.reduceLeDiff, reduceIte, Nat.reduceEqDiff, reduceCtorEq, argEnv, eq_self, if_true, if_false]
    repeat' ((first | rw [guardK_cases] | rw [condK_bool] | rw [guardD_cases]); split <;> simp only [hT, evX, Int.reduceEq, Int.reduceLT, Int.reduceLE, Nat.reduceMul, Nat.reduceMod, evW, evR, Nat.reduceAdd, Nat.reduceLT, Nat.reduceLeDiff, reduceIte, Nat.reduceEqDiff, reduceCtorEq, argEnv, eq_self, if_true, if_false, *])
    simp [small, g]
end Go.Proofs.YtbdpceigmnpoaaaGreatDoor.Code

/- logic: in place of plain's Ru (First is not here). -/
set_option linter.unusedSimpArgs false
set_option linter.unusedVariables false
namespace Go.Proofs.YtbdpceigmnpoaaaGreatDoor.Code
end Go.Proofs.YtbdpceigmnpoaaaGreatDoor.Code

/- plain: the laws' arguments, opened. -/
set_option linter.unusedSimpArgs false
set_option linter.unusedVariables false
namespace Go.Proofs.YtbdpceigmnpoaaaGreatDoor.Code
open Go.Proofs.YtbdpceigmnpoaaaGreatDoor.Ev Go.RowKit

theorem typed {α : Type} {P : List AV → Prop} {enc : α → List AV} {Q : α → Prop} (h : ∀ r, P r → ∃ x, r = enc x ∧ Q x) : ∀ l : List (List AV), (∀ r ∈ l, P r) → ∃ xs : List α, l = xs.map enc ∧ ∀ x ∈ xs, Q x
  | [], _ => ⟨[], rfl, by simp⟩
  | r :: l, hl => by
    obtain ⟨x, rfl, hx⟩ := h r (hl r (List.mem_cons_self ..))
    obtain ⟨xs, rfl, hxs⟩ := typed h l fun r hr => hl r (List.mem_cons_of_mem _ hr)
    exact ⟨x :: xs, rfl, fun y hy => by (rcases List.mem_cons.1 hy with rfl | hy; exact hx; exact hxs y hy)⟩
theorem reach_lt {n : Nat} (h : n ≤ reachBytes) : n < 9223372036854775807 := by unfold reachBytes at h; omega
theorem open_Fd {r : List AV} (h : HasL [.str, .int .i64, .int .i64] r) : ∃ x : Fd, r = rFd x ∧ x.Ok := by
  simp only [HasL.eq_2, HasL.eq_1, Has] at h
  obtain ⟨x, xs, rfl, ⟨s, rfl, hs⟩, y, ys, rfl, ⟨f, rfl, _⟩, z, zs, rfl, ⟨o, rfl, _⟩, rfl⟩ := h
  exact ⟨⟨s, f, o⟩, rfl, ⟨reach_lt hs⟩⟩
theorem open_Se {r : List AV} (h : HasL [.str, .int .i64, .int .i64, .str] r) : ∃ x : Se, r = rSe x ∧ x.Ok := by
  simp only [HasL.eq_2, HasL.eq_1, Has] at h
  obtain ⟨x, xs, rfl, ⟨s, rfl, hs⟩, y, ys, rfl, ⟨f, rfl, _⟩, z, zs, rfl, ⟨o, rfl, _⟩, w, ws, rfl, ⟨p, rfl, hp⟩, rfl⟩ := h
  exact ⟨⟨s, f, o, p⟩, rfl, ⟨reach_lt hs, reach_lt hp⟩⟩
theorem open_Item {r : List AV} (h : HasL [.int .i64, .str] r) : ∃ x : Item, r = rItem x ∧ True := by
  simp only [HasL.eq_2, HasL.eq_1, Has] at h
  obtain ⟨x, xs, rfl, ⟨s, rfl, _⟩, y, ys, rfl, ⟨f, rfl, _⟩, rfl⟩ := h
  exact ⟨⟨s, f⟩, rfl, trivial⟩
theorem open_Ty {r : List AV} (h : HasL [.str, .int .i64, .int .i64, .int .i64, .sl [.str, .int .i64, .int .i64], .int .i64, .bool, .bool] r) : ∃ x : Ty, r = rTy x ∧ x.Ok := by
  simp only [HasL.eq_2, HasL.eq_1, Has] at h
  obtain ⟨_, _, rfl, ⟨a, rfl, ha⟩, _, _, rfl, ⟨b, rfl, _⟩, _, _, rfl, ⟨c, rfl, _⟩, _, _, rfl, ⟨d, rfl, _⟩, _, _, rfl, ⟨l, rfl, hl, hr⟩, _, _, rfl, ⟨e, rfl, _⟩, _, _, rfl, ⟨f, rfl⟩, _, _, rfl, ⟨g, rfl⟩, rfl⟩ := h
  obtain ⟨fs, rfl, hq⟩ := typed (P := HasL [.str, .int .i64, .int .i64]) (fun r h => open_Fd h) l (fun r h => by simpa only [HasL.eq_2, HasL.eq_1, Has] using hr r h)
  exact ⟨⟨a, b, c, d, fs, e, f, g⟩, rfl, ⟨reach_lt ha, reach_lt (by simpa using hl), hq⟩⟩
theorem open_Base {a : AV} (h : ArgTy true [.str, .int .i64, .sl [.str, .int .i64, .int .i64, .int .i64, .sl [.str, .int .i64, .int .i64], .int .i64, .bool, .bool], .sl [.str, .int .i64, .int .i64, .str]] a) : ∃ b : Base, a = eBase b ∧ b.Ok := by
  obtain ⟨bs, rfl, h⟩ := h
  simp only [HasL.eq_2, HasL.eq_1, Has] at h
  obtain ⟨_, _, rfl, ⟨n, rfl, hn⟩, _, _, rfl, ⟨k, rfl, _⟩, _, _, rfl, ⟨l, rfl, hl, hr⟩, _, _, rfl, ⟨l', rfl, hl', hr'⟩, rfl⟩ := h
  obtain ⟨ts, rfl, hq⟩ := typed (P := HasL [.str, .int .i64, .int .i64, .int .i64, .sl [.str, .int .i64, .int .i64], .int .i64, .bool, .bool]) (fun r h => open_Ty h) l (fun r h => by simpa only [HasL.eq_2, HasL.eq_1, Has] using hr r h)
  obtain ⟨xs, rfl, hq'⟩ := typed (P := HasL [.str, .int .i64, .int .i64, .str]) (fun r h => open_Se h) l' (fun r h => by simpa only [HasL.eq_2, HasL.eq_1, Has] using hr' r h)
  exact ⟨⟨n, k, ts, xs⟩, rfl, ⟨reach_lt hn, reach_lt (by simpa using hl), hq, reach_lt (by simpa using hl'), hq'⟩⟩
end Go.Proofs.YtbdpceigmnpoaaaGreatDoor.Code

/- plain: ends of subtrees (mathematics). -/
set_option linter.unusedSimpArgs false
set_option linter.unusedVariables false
namespace Go.Proofs.YtbdpceigmnpoaaaGreatDoor.Code
open Go.Proofs.YtbdpceigmnpoaaaGreatDoor.Ev

/-- a base and a forest that are right -/
structure Right (b : Base) (f : List Item) : Prop where
  base : b.Ok
  valid : validB b = true
  forest : forestOk b.types f = true
theorem Right.tys {b : Base} {f : List Item} (h : Right b f) : tysOk b.types = true := valid_tys h.valid
theorem Right.len {b : Base} {f : List Item} (h : Right b f) : f.length ≤ 200 := by
  have := h.forest
  simp only [forestOk, Bool.and_eq_true, decide_eq_true_eq] at this
  omega
theorem Right.ok {b : Base} {f : List Item} (h : Right b f) : FOk b.types f f.length := fun j x _ hx => by
  have := h.forest
  simp only [forestOk, Bool.and_eq_true] at this
  exact tell_true.1 this.2 j x hx
theorem Right.fits {b : Base} {f : List Item} (h : Right b f) : AllFit b.types f := fun i x hx => ok_fits (h.ok i x (List.getElem?_eq_some_iff.1 hx).1 hx)
/-- the parent of an item -/
theorem Right.par {b : Base} {f : List Item} (h : Right b f) {i : Nat} {x : Item} {k : Nat} {t : Ty} (hx : f[i]? = some x) (hk : x.type = (k : Int)) (ht : b.types[k]? = some t) :
    (t.parent < 0 ∧ par b.types f i = -1 ∧ k = 0) ∨ ∃ p : Nat, par b.types f i = (p : Int) ∧ p < i ∧ (p : Int) ∈ way b.types f i ∧ 0 ≤ t.parent ∧ t.parent < (k : Int) ∧ typ f (p : Int) = t.parent := by
  have hi := (List.getElem?_eq_some_iff.1 hx).1
  have hpt : tpar b.types x.type = t.parent := by rw [hk, tpar_at ht]
  by_cases hp : t.parent < 0
  · exact .inl ⟨hp, by unfold Code.par; rw [typ_at hx, hpt, if_pos hp], (tys_root h.tys ht).1 hp⟩
  · have hok := h.ok i x hi hx
    simp only [okAt, Bool.and_eq_true, Bool.or_eq_true, decide_eq_true_eq, tell_true, hpt] at hok
    have hm : Code.par b.types f i ∈ way b.types f i := by rcases hok.1.2 with h1 | h1; (· omega); exact h1
    have hb := way_bound hm
    have hg := tys_good h.tys k t (List.getElem?_eq_some_iff.1 ht).1 ht
    refine .inr ⟨(Code.par b.types f i).toNat, by omega, by omega, by rw [Int.toNat_of_nonneg hb.1]; exact hm, by omega, by omega, ?_⟩
    rw [Int.toNat_of_nonneg hb.1, (par_typ hb.1).1, typ_at hx, hpt]
/-- behind the subtree of an item -/
structure IsEnd (ts : List Ty) (f : List Item) (i e : Nat) : Prop where
  lt : i < e
  le : e ≤ f.length
  all : ∀ k : Nat, i < k → k < e → (i : Int) ∈ pth ts f k
  no : e < f.length → (i : Int) ∉ pth ts f e
/-- what is ahead of a place in a subtree is in that subtree -/
theorem IsEnd.way {ts : List Ty} {f : List Item} {i e : Nat} (hall : ∀ k : Nat, i < k → k < e → (i : Int) ∈ pth ts f k) {k : Nat} (h1 : i < k) (h2 : k ≤ e) : (i : Int) ∈ way ts f k := by
  obtain ⟨k, rfl⟩ : ∃ j, k = j + 1 := ⟨k - 1, by omega⟩
  change (i : Int) ∈ pth ts f k
  by_cases e' : k = i
  · subst e'; exact pth_self ts f k
  · exact hall k (by omega) (by omega)
end Go.Proofs.YtbdpceigmnpoaaaGreatDoor.Code

/- plain: what is asked of bases, forests and places; parents, depths and ends. -/
set_option linter.unusedSimpArgs false
set_option linter.unusedVariables false
namespace Go.Proofs.YtbdpceigmnpoaaaGreatDoor.Code
open Go.Proofs.YtbdpceigmnpoaaaGreatDoor.Ev

end Go.Proofs.YtbdpceigmnpoaaaGreatDoor.Code

/- plain: ends of subtrees, of the program and of the document. -/
set_option linter.unusedSimpArgs false
set_option linter.unusedVariables false
namespace Go.Proofs.YtbdpceigmnpoaaaGreatDoor.Code
open Go.Proofs.YtbdpceigmnpoaaaGreatDoor.Ev

end Go.Proofs.YtbdpceigmnpoaaaGreatDoor.Code

/- plain: Delete, of the program and of the document. -/
set_option linter.unusedSimpArgs false
set_option linter.unusedVariables false
namespace Go.Proofs.YtbdpceigmnpoaaaGreatDoor.Code
open Go.Proofs.YtbdpceigmnpoaaaGreatDoor.Ev

theorem plain_items (l : List Item) : Plain (l.map rItem) := fz_rItem l
end Go.Proofs.YtbdpceigmnpoaaaGreatDoor.Code

/- plain: fits, keys and Replace, of the program and of the document. -/
set_option linter.unusedSimpArgs false
set_option linter.unusedVariables false
namespace Go.Proofs.YtbdpceigmnpoaaaGreatDoor.Code
open Go.Proofs.YtbdpceigmnpoaaaGreatDoor.Ev

end Go.Proofs.YtbdpceigmnpoaaaGreatDoor.Code

/- plain: Replace, of the program and of the document. -/
set_option linter.unusedSimpArgs false
set_option linter.unusedVariables false
namespace Go.Proofs.YtbdpceigmnpoaaaGreatDoor.Code
open Go.Proofs.YtbdpceigmnpoaaaGreatDoor.Ev

end Go.Proofs.YtbdpceigmnpoaaaGreatDoor.Code

/- call: arguments, states, calls and answers; items on a path (mathematics). -/
set_option linter.unusedSimpArgs false
set_option linter.unusedVariables false
namespace Go.Proofs.YtbdpceigmnpoaaaGreatDoor.Code
open Go.Proofs.YtbdpceigmnpoaaaGreatDoor.Ev

structure Tm where
  field : ByteArray
  op : Int
  value : ByteArray
structure Ar where
  seg : ByteArray
  codes : ByteArray
  whn : List (List Tm)
structure Ste where
  items : List Item
  at' : Int
  next : Int
  parent : Int
  held : Bool
def rSte (s : Ste) : List AV := [eItems s.items, .int .i64 s.at', .int .i64 s.next, .int .i64 s.parent, .bool s.held]
def eSte (s : Ste) : AV := .agg (rSte s)
structure Ar.Ok (a : Ar) : Prop where
  codes : a.codes.size < 9223372036854775807
  whn : a.whn.length < 9223372036854775807
  gr : ∀ l ∈ a.whn, l.length < 9223372036854775807

/-! items on a path -/
end Go.Proofs.YtbdpceigmnpoaaaGreatDoor.Code

/- call: the first state with a forest, states that are right and the same, of the program and of the document. -/
set_option linter.unusedSimpArgs false
set_option linter.unusedVariables false
namespace Go.Proofs.YtbdpceigmnpoaaaGreatDoor.Code
open Go.Proofs.YtbdpceigmnpoaaaGreatDoor.Ev

/-- the first state with a forest -/
def staF (f : List Item) : Ste := ⟨f, -1, 0, -1, false⟩
def sta0 : Ste := ⟨[], 0, 0, 0, false⟩
/-- the numbers of a state are right -/
def numOk (s : Ste) : Bool :=
  decide (-1 ≤ s.at') && decide (s.at' < (s.items.length : Int)) && decide (0 ≤ s.next) && decide (s.next ≤ (s.items.length : Int)) && decide (-1 ≤ s.parent) && decide (s.parent < (s.items.length : Int)) &&
    (if s.at' < 0 then !s.held else decide (s.next = s.at' + 1))
noncomputable def forE (b : Base) (f : List Item) : Int := if validB b = true then (if forestOk b.types f = true then 0 else 140) else 100
noncomputable def fstS (b : Base) (f : List Item) : Ste := if forE b f = 0 then staF f else sta0
noncomputable def sameS (s t : Ste) : Bool := same s.items t.items && decide (s.at' = t.at') && decide (s.next = t.next) && decide (s.parent = t.parent) && (s.held == t.held)
theorem sameS_self (s : Ste) : sameS s s = true := by
  have : same s.items s.items = true := tell_pos rfl
  simp [sameS, this]
theorem numOk_staF (f : List Item) : numOk (staF f) = true := by
  simp only [numOk, staF, decide_eq_true (show (-1 : Int) ≤ -1 by omega), decide_eq_true (show (-1 : Int) < (f.length : Int) by omega), decide_eq_true (show (0 : Int) ≤ 0 by omega), decide_eq_true (show (0 : Int) ≤ (f.length : Int) by omega), if_pos (show (-1 : Int) < 0 by omega)]; rfl
/-- slices.Clone of items, frozen -/
theorem f45z (f : List Item) (hl : f.length ≤ 1000) (H : Heap) : cal (evC cprog) true 45 [eItems f] H = some (eItems f, H) := by
  cases f with
  | nil =>
    have h := clone_nil (ty := 55) (sz := 2) (bytes := 24) at45 H
    exact cal_frz (ids := []) h rfl rfl (by simp) (by simp)
  | cons y ys =>
    have h := clone_lst (ty := 55) (sz := 2) (bytes := 24) at45 (rItem y) (ys.map rItem) H rfl (by simp [reach] at *; omega)
    obtain ⟨ids, g1, g2⟩ := fz_blk (H := H ++ [⟨0, true, 55, 2, (y :: ys).map rItem⟩]) (b := H.length) (v := 0) (sz := 2) (len := (y :: ys).length) (k := ⟨0, true, 55, 2, (y :: ys).map rItem⟩) (by simp [curBlk]) (rows := (y :: ys).map rItem)
      (by rw [List.take_of_length_le (by simp)]) (plain_items _) 6
    rw [List.length_map] at h
    exact cal_frz (ids := ids) h g1 rfl (by simp) (fun b hb => by rw [g2 b hb]; exact Nat.le_refl _)
theorem fapp_items {l : List Item} (hl : l.length ≤ 1000) (H : Heap) : fappK 2 24 H (some .nil0) (some (eItems l)) = some (eItems l) := by
  cases l with
  | nil => rfl
  | cons y ys =>
    have hfl : ((y :: ys).map rItem).all (fun r => r.all AV.flat) = true := by
      rw [List.all_eq_true]; intro r hr
      obtain ⟨f, _, rfl⟩ := List.mem_map.1 hr
      rfl
    have hc : ((y :: ys).map rItem).length * 24 ≤ reach ∧ ((y :: ys).map rItem).length ≤ reach := by rw [List.length_map]; simp only [reach]; omega
    show fappV 2 24 .nil0 ((y :: ys).map rItem) = _
    simp only [fappV]
    rw [if_neg (by simp), if_pos ⟨headOk_map rItem (fun _ => rfl) _, hc.1, hc.2, hfl⟩]; rfl
theorem f42 (f : List Item) (hl : f.length ≤ 1000) (H : Heap) : cal (evC cprog) true 42 [eItems f] H = some (eSte (staF f), H) := by
  rw [cal_of at42]
  have h45 := f45z f hl
  simp only [c42, h45, cells_eItems, isTup_eItems, evX, Int.reduceEq, Int.reduceLT, Int.reduceLE, Nat.reduceMul, Nat.reduceMod, evW, fn_eq, evR, Nat.reduceAdd, Nat.reduceLT, Nat.reduceLeDiff, reduceIte, Nat.reduceEqDiff, reduceCtorEq, argEnv, eq_self, if_true, if_false]
  repeat' ((first | rw [guardK_cases] | rw [condK_bool] | rw [guardD_cases]); split <;> simp only [c42, h45, cells_eItems, isTup_eItems, evX, Int.reduceEq, Int.reduceLT, Int.reduceLE, Nat.reduceMul, Nat.reduceMod, evW, evR, Nat.reduceAdd, Nat.reduceLT, Nat.reduceLeDiff, reduceIte, Nat.reduceEqDiff, reduceCtorEq, argEnv, eq_self, if_true, if_false, *])
  exact calK_frz (ids := []) rfl rfl (by simp) (by simp)
theorem f48 (s : Ste) (hl : s.items.length < 9223372036854775807) (H : Heap) : cal (evC cprog) false 48 [eSte s] H = some (.bool (numOk s), H) := by
  rw [cal_of at48]
  have hlen := (sItems [] s.items).len
  simp only [List.length_map] at hlen
  obtain ⟨f, a, n, p, h⟩ := s
  simp only at hl hlen
  by_cases n1 : a < -1
  · simp only [c48, eSte, rSte, hlen, n1, evX, Int.reduceEq, Int.reduceLT, Int.reduceLE, Nat.reduceMul, Nat.reduceMod, evW, fn_eq, evR, Nat.reduceAdd, Nat.reduceLT, Nat.reduceLeDiff, reduceIte, Nat.reduceEqDiff, reduceCtorEq, argEnv, eq_self, if_true, if_false]
    repeat' ((first | rw [guardK_cases] | rw [condK_bool] | rw [guardD_cases]); split <;> simp only [c48, eSte, rSte, hlen, n1, evX, Int.reduceEq, Int.reduceLT, Int.reduceLE, Nat.reduceMul, Nat.reduceMod, evW, evR, Nat.reduceAdd, Nat.reduceLT, Nat.reduceLeDiff, reduceIte, Nat.reduceEqDiff, reduceCtorEq, argEnv, eq_self, if_true, if_false, *])
    simp [numOk]; omega
  by_cases n2 : (f.length : Int) ≤ a
  · simp only [c48, eSte, rSte, hlen, n1, n2, evX, Int.reduceEq, Int.reduceLT, Int.reduceLE, Nat.reduceMul, Nat.reduceMod, evW, fn_eq, evR, Nat.reduceAdd, Nat.reduceLT, Nat.reduceLeDiff, reduceIte, Nat.reduceEqDiff, reduceCtorEq, argEnv, eq_self, if_true, if_false]
    repeat' ((first | rw [guardK_cases] | rw [condK_bool] | rw [guardD_cases]); split <;> simp only [c48, eSte, rSte, hlen, n1, n2, evX, Int.reduceEq, Int.reduceLT, Int.reduceLE, Nat.reduceMul, Nat.reduceMod, evW, evR, Nat.reduceAdd, Nat.reduceLT, Nat.reduceLeDiff, reduceIte, Nat.reduceEqDiff, reduceCtorEq, argEnv, eq_self, if_true, if_false, *])
    simp [numOk]; omega
  by_cases n3 : n < 0
  · simp only [c48, eSte, rSte, hlen, n1, n2, n3, evX, Int.reduceEq, Int.reduceLT, Int.reduceLE, Nat.reduceMul, Nat.reduceMod, evW, fn_eq, evR, Nat.reduceAdd, Nat.reduceLT, Nat.reduceLeDiff, reduceIte, Nat.reduceEqDiff, reduceCtorEq, argEnv, eq_self, if_true, if_false]
    repeat' ((first | rw [guardK_cases] | rw [condK_bool] | rw [guardD_cases]); split <;> simp only [c48, eSte, rSte, hlen, n1, n2, n3, evX, Int.reduceEq, Int.reduceLT, Int.reduceLE, Nat.reduceMul, Nat.reduceMod, evW, evR, Nat.reduceAdd, Nat.reduceLT, Nat.reduceLeDiff, reduceIte, Nat.reduceEqDiff, reduceCtorEq, argEnv, eq_self, if_true, if_false, *])
    simp [numOk]; omega
  by_cases n4 : (f.length : Int) < n
  · simp only [c48, eSte, rSte, hlen, n1, n2, n3, n4, evX, Int.reduceEq, Int.reduceLT, Int.reduceLE, Nat.reduceMul, Nat.reduceMod, evW, fn_eq, evR, Nat.reduceAdd, Nat.reduceLT, Nat.reduceLeDiff, reduceIte, Nat.reduceEqDiff, reduceCtorEq, argEnv, eq_self, if_true, if_false]
    repeat' ((first | rw [guardK_cases] | rw [condK_bool] | rw [guardD_cases]); split <;> simp only [c48, eSte, rSte, hlen, n1, n2, n3, n4, evX, Int.reduceEq, Int.reduceLT, Int.reduceLE, Nat.reduceMul, Nat.reduceMod, evW, evR, Nat.reduceAdd, Nat.reduceLT, Nat.reduceLeDiff, reduceIte, Nat.reduceEqDiff, reduceCtorEq, argEnv, eq_self, if_true, if_false, *])
    simp [numOk]; omega
  by_cases n5 : p < -1
  · simp only [c48, eSte, rSte, hlen, n1, n2, n3, n4, n5, evX, Int.reduceEq, Int.reduceLT, Int.reduceLE, Nat.reduceMul, Nat.reduceMod, evW, fn_eq, evR, Nat.reduceAdd, Nat.reduceLT, Nat.reduceLeDiff, reduceIte, Nat.reduceEqDiff, reduceCtorEq, argEnv, eq_self, if_true, if_false]
    repeat' ((first | rw [guardK_cases] | rw [condK_bool] | rw [guardD_cases]); split <;> simp only [c48, eSte, rSte, hlen, n1, n2, n3, n4, n5, evX, Int.reduceEq, Int.reduceLT, Int.reduceLE, Nat.reduceMul, Nat.reduceMod, evW, evR, Nat.reduceAdd, Nat.reduceLT, Nat.reduceLeDiff, reduceIte, Nat.reduceEqDiff, reduceCtorEq, argEnv, eq_self, if_true, if_false, *])
    simp [numOk]; omega
  by_cases n6 : (f.length : Int) ≤ p
  · simp only [c48, eSte, rSte, hlen, n1, n2, n3, n4, n5, n6, evX, Int.reduceEq, Int.reduceLT, Int.reduceLE, Nat.reduceMul, Nat.reduceMod, evW, fn_eq, evR, Nat.reduceAdd, Nat.reduceLT, Nat.reduceLeDiff, reduceIte, Nat.reduceEqDiff, reduceCtorEq, argEnv, eq_self, if_true, if_false]
    repeat' ((first | rw [guardK_cases] | rw [condK_bool] | rw [guardD_cases]); split <;> simp only [c48, eSte, rSte, hlen, n1, n2, n3, n4, n5, n6, evX, Int.reduceEq, Int.reduceLT, Int.reduceLE, Nat.reduceMul, Nat.reduceMod, evW, evR, Nat.reduceAdd, Nat.reduceLT, Nat.reduceLeDiff, reduceIte, Nat.reduceEqDiff, reduceCtorEq, argEnv, eq_self, if_true, if_false, *])
    simp [numOk]; omega
  have e : numOk ⟨f, a, n, p, h⟩ = if a < 0 then !h else decide (n = a + 1) := by
    simp only [numOk, decide_eq_true (show -1 ≤ a by omega), decide_eq_true (show a < (f.length : Int) by omega), decide_eq_true (show 0 ≤ n by omega), decide_eq_true (show n ≤ (f.length : Int) by omega), decide_eq_true (show -1 ≤ p by omega), decide_eq_true (show p < (f.length : Int) by omega), Bool.true_and]
  rw [e]
  by_cases n7 : a < 0
  · simp only [c48, eSte, rSte, hlen, n1, n2, n3, n4, n5, n6, n7, evX, Int.reduceEq, Int.reduceLT, Int.reduceLE, Nat.reduceMul, Nat.reduceMod, evW, fn_eq, evR, Nat.reduceAdd, Nat.reduceLT, Nat.reduceLeDiff, reduceIte, Nat.reduceEqDiff, reduceCtorEq, argEnv, eq_self, if_true, if_false]
    repeat' ((first | rw [guardK_cases] | rw [condK_bool] | rw [guardD_cases]); split <;> simp only [c48, eSte, rSte, hlen, n1, n2, n3, n4, n5, n6, n7, evX, Int.reduceEq, Int.reduceLT, Int.reduceLE, Nat.reduceMul, Nat.reduceMod, evW, evR, Nat.reduceAdd, Nat.reduceLT, Nat.reduceLeDiff, reduceIte, Nat.reduceEqDiff, reduceCtorEq, argEnv, eq_self, if_true, if_false, *])
  · have hw : IntKind.i64.wrap (a + 1) = a + 1 := wrap_i64 (by omega) (by omega)
    simp only [c48, eSte, rSte, hlen, n1, n2, n3, n4, n5, n6, n7, hw, evX, Int.reduceEq, Int.reduceLT, Int.reduceLE, Nat.reduceMul, Nat.reduceMod, evW, fn_eq, evR, Nat.reduceAdd, Nat.reduceLT, Nat.reduceLeDiff, reduceIte, Nat.reduceEqDiff, reduceCtorEq, argEnv, eq_self, if_true, if_false]
    repeat' ((first | rw [guardK_cases] | rw [condK_bool] | rw [guardD_cases]); split <;> simp only [c48, eSte, rSte, hlen, n1, n2, n3, n4, n5, n6, n7, hw, evX, Int.reduceEq, Int.reduceLT, Int.reduceLE, Nat.reduceMul, Nat.reduceMod, evW, evR, Nat.reduceAdd, Nat.reduceLT, Nat.reduceLeDiff, reduceIte, Nat.reduceEqDiff, reduceCtorEq, argEnv, eq_self, if_true, if_false, *])
theorem f18 (b : Base) (hb : b.Ok) (s : Ste) (hl : s.items.length < 9223372036854775807) (H : Heap) : cal (evC cprog) false 18 [eBase b, eSte s] H = some (bEr (validB b && forestOk b.types s.items && numOk s) (if validB b = true then 0 else 100), H) := by
  rw [cal_of at18]
  have h41 := f41 b hb s.items
  have h48 := f48 s hl
  cases hv : validB b <;> cases hf : forestOk b.types s.items
  all_goals
    simp only [eBase, bEr, hv, hf, if_true, if_false, Bool.false_eq_true, Bool.and_self, Bool.and_false, Bool.false_and] at h41
    simp only [eSte, rSte] at h48
    simp only [c18, eBase, eSte, rSte, bEr, h41, h48, evX, Int.reduceEq, Int.reduceLT, Int.reduceLE, Nat.reduceMul, Nat.reduceMod, evW, fn_eq, evR, Nat.reduceAdd, Nat.reduceLT, Nat.reduceLeDiff, reduceIte, Nat.reduceEqDiff, reduceCtorEq, argEnv, eq_self, if_true, if_false]
    repeat' ((first | rw [guardK_cases] | rw [condK_bool] | rw [guardD_cases]); split <;> simp only [c18, eBase, eSte, rSte, bEr, h41, h48, evX, Int.reduceEq, Int.reduceLT, Int.reduceLE, Nat.reduceMul, Nat.reduceMod, evW, evR, Nat.reduceAdd, Nat.reduceLT, Nat.reduceLeDiff, reduceIte, Nat.reduceEqDiff, reduceCtorEq, argEnv, eq_self, if_true, if_false, *])
theorem f44 (b : Base) (hb : b.Ok) (s : Ste) (hl : s.items.length < 9223372036854775807) (H : Heap) : cal (evC cprog) false 44 [eBase b, eSte s] H = some (.bool (validB b && forestOk b.types s.items && numOk s), H) := by
  rw [cal_of at44]
  have h81 := f81 b hb s.items
  have hlen := (sItems [] s.items).len
  simp only [List.length_map] at hlen
  cases hv : validB b && forestOk b.types s.items with
  | false =>
    simp only [eBase, bEr, hv] at h81
    simp only [c44, eBase, eSte, rSte, hlen, h81, evX, Int.reduceEq, Int.reduceLT, Int.reduceLE, Nat.reduceMul, Nat.reduceMod, evW, fn_eq, evR, Nat.reduceAdd, Nat.reduceLT, Nat.reduceLeDiff, reduceIte, Nat.reduceEqDiff, reduceCtorEq, argEnv, eq_self, if_true, if_false]
    repeat' ((first | rw [guardK_cases] | rw [condK_bool] | rw [guardD_cases]); split <;> simp only [c44, eBase, eSte, rSte, hlen, h81, evX, Int.reduceEq, Int.reduceLT, Int.reduceLE, Nat.reduceMul, Nat.reduceMod, evW, evR, Nat.reduceAdd, Nat.reduceLT, Nat.reduceLeDiff, reduceIte, Nat.reduceEqDiff, reduceCtorEq, argEnv, eq_self, if_true, if_false, *])
  | true =>
    simp only [eBase, bEr, hv] at h81
    obtain ⟨f, a, n, p, h⟩ := s
    simp only at hl hlen h81
    by_cases n1 : a < -1
    · simp only [c44, eBase, eSte, rSte, hlen, h81, n1, evX, Int.reduceEq, Int.reduceLT, Int.reduceLE, Nat.reduceMul, Nat.reduceMod, evW, fn_eq, evR, Nat.reduceAdd, Nat.reduceLT, Nat.reduceLeDiff, reduceIte, Nat.reduceEqDiff, reduceCtorEq, argEnv, eq_self, if_true, if_false]
      repeat' ((first | rw [guardK_cases] | rw [condK_bool] | rw [guardD_cases]); split <;> simp only [c44, eBase, eSte, rSte, hlen, h81, n1, evX, Int.reduceEq, Int.reduceLT, Int.reduceLE, Nat.reduceMul, Nat.reduceMod, evW, evR, Nat.reduceAdd, Nat.reduceLT, Nat.reduceLeDiff, reduceIte, Nat.reduceEqDiff, reduceCtorEq, argEnv, eq_self, if_true, if_false, *])
      simp [numOk]; omega
    by_cases n2 : (f.length : Int) ≤ a
    · simp only [c44, eBase, eSte, rSte, hlen, h81, n1, n2, evX, Int.reduceEq, Int.reduceLT, Int.reduceLE, Nat.reduceMul, Nat.reduceMod, evW, fn_eq, evR, Nat.reduceAdd, Nat.reduceLT, Nat.reduceLeDiff, reduceIte, Nat.reduceEqDiff, reduceCtorEq, argEnv, eq_self, if_true, if_false]
      repeat' ((first | rw [guardK_cases] | rw [condK_bool] | rw [guardD_cases]); split <;> simp only [c44, eBase, eSte, rSte, hlen, h81, n1, n2, evX, Int.reduceEq, Int.reduceLT, Int.reduceLE, Nat.reduceMul, Nat.reduceMod, evW, evR, Nat.reduceAdd, Nat.reduceLT, Nat.reduceLeDiff, reduceIte, Nat.reduceEqDiff, reduceCtorEq, argEnv, eq_self, if_true, if_false, *])
      simp [numOk]; omega
    by_cases n3 : n < 0
    · simp only [c44, eBase, eSte, rSte, hlen, h81, n1, n2, n3, evX, Int.reduceEq, Int.reduceLT, Int.reduceLE, Nat.reduceMul, Nat.reduceMod, evW, fn_eq, evR, Nat.reduceAdd, Nat.reduceLT, Nat.reduceLeDiff, reduceIte, Nat.reduceEqDiff, reduceCtorEq, argEnv, eq_self, if_true, if_false]
      repeat' ((first | rw [guardK_cases] | rw [condK_bool] | rw [guardD_cases]); split <;> simp only [c44, eBase, eSte, rSte, hlen, h81, n1, n2, n3, evX, Int.reduceEq, Int.reduceLT, Int.reduceLE, Nat.reduceMul, Nat.reduceMod, evW, evR, Nat.reduceAdd, Nat.reduceLT, Nat.reduceLeDiff, reduceIte, Nat.reduceEqDiff, reduceCtorEq, argEnv, eq_self, if_true, if_false, *])
      simp [numOk]; omega
    by_cases n4 : (f.length : Int) < n
    · simp only [c44, eBase, eSte, rSte, hlen, h81, n1, n2, n3, n4, evX, Int.reduceEq, Int.reduceLT, Int.reduceLE, Nat.reduceMul, Nat.reduceMod, evW, fn_eq, evR, Nat.reduceAdd, Nat.reduceLT, Nat.reduceLeDiff, reduceIte, Nat.reduceEqDiff, reduceCtorEq, argEnv, eq_self, if_true, if_false]
      repeat' ((first | rw [guardK_cases] | rw [condK_bool] | rw [guardD_cases]); split <;> simp only [c44, eBase, eSte, rSte, hlen, h81, n1, n2, n3, n4, evX, Int.reduceEq, Int.reduceLT, Int.reduceLE, Nat.reduceMul, Nat.reduceMod, evW, evR, Nat.reduceAdd, Nat.reduceLT, Nat.reduceLeDiff, reduceIte, Nat.reduceEqDiff, reduceCtorEq, argEnv, eq_self, if_true, if_false, *])
      simp [numOk]; omega
    by_cases n5 : p < -1
    · simp only [c44, eBase, eSte, rSte, hlen, h81, n1, n2, n3, n4, n5, evX, Int.reduceEq, Int.reduceLT, Int.reduceLE, Nat.reduceMul, Nat.reduceMod, evW, fn_eq, evR, Nat.reduceAdd, Nat.reduceLT, Nat.reduceLeDiff, reduceIte, Nat.reduceEqDiff, reduceCtorEq, argEnv, eq_self, if_true, if_false]
      repeat' ((first | rw [guardK_cases] | rw [condK_bool] | rw [guardD_cases]); split <;> simp only [c44, eBase, eSte, rSte, hlen, h81, n1, n2, n3, n4, n5, evX, Int.reduceEq, Int.reduceLT, Int.reduceLE, Nat.reduceMul, Nat.reduceMod, evW, evR, Nat.reduceAdd, Nat.reduceLT, Nat.reduceLeDiff, reduceIte, Nat.reduceEqDiff, reduceCtorEq, argEnv, eq_self, if_true, if_false, *])
      simp [numOk]; omega
    by_cases n6 : (f.length : Int) ≤ p
    · simp only [c44, eBase, eSte, rSte, hlen, h81, n1, n2, n3, n4, n5, n6, evX, Int.reduceEq, Int.reduceLT, Int.reduceLE, Nat.reduceMul, Nat.reduceMod, evW, fn_eq, evR, Nat.reduceAdd, Nat.reduceLT, Nat.reduceLeDiff, reduceIte, Nat.reduceEqDiff, reduceCtorEq, argEnv, eq_self, if_true, if_false]
      repeat' ((first | rw [guardK_cases] | rw [condK_bool] | rw [guardD_cases]); split <;> simp only [c44, eBase, eSte, rSte, hlen, h81, n1, n2, n3, n4, n5, n6, evX, Int.reduceEq, Int.reduceLT, Int.reduceLE, Nat.reduceMul, Nat.reduceMod, evW, evR, Nat.reduceAdd, Nat.reduceLT, Nat.reduceLeDiff, reduceIte, Nat.reduceEqDiff, reduceCtorEq, argEnv, eq_self, if_true, if_false, *])
      simp [numOk]; omega
    have e : numOk ⟨f, a, n, p, h⟩ = if a < 0 then !h else decide (n = a + 1) := by
      simp only [numOk, decide_eq_true (show -1 ≤ a by omega), decide_eq_true (show a < (f.length : Int) by omega), decide_eq_true (show 0 ≤ n by omega), decide_eq_true (show n ≤ (f.length : Int) by omega), decide_eq_true (show -1 ≤ p by omega), decide_eq_true (show p < (f.length : Int) by omega), Bool.true_and]
    rw [e]
    by_cases n7 : a < 0
    · have n8 : ¬ 0 ≤ a := by omega
      cases h with
      | true => simp only [c44, eBase, eSte, rSte, hlen, h81, n1, n2, n3, n4, n5, n6, n7, n8, evX, Int.reduceEq, Int.reduceLT, Int.reduceLE, Nat.reduceMul, Nat.reduceMod, evW, fn_eq, evR, Nat.reduceAdd, Nat.reduceLT, Nat.reduceLeDiff, reduceIte, Nat.reduceEqDiff, reduceCtorEq, argEnv, eq_self, if_true, if_false]
                repeat' ((first | rw [guardK_cases] | rw [condK_bool] | rw [guardD_cases]); split <;> simp only [c44, eBase, eSte, rSte, hlen, h81, n1, n2, n3, n4, n5, n6, n7, n8, evX, Int.reduceEq, Int.reduceLT, Int.reduceLE, Nat.reduceMul, Nat.reduceMod, evW, evR, Nat.reduceAdd, Nat.reduceLT, Nat.reduceLeDiff, reduceIte, Nat.reduceEqDiff, reduceCtorEq, argEnv, eq_self, if_true, if_false, *])
      | false => simp only [c44, eBase, eSte, rSte, hlen, h81, n1, n2, n3, n4, n5, n6, n7, n8, evX, Int.reduceEq, Int.reduceLT, Int.reduceLE, Nat.reduceMul, Nat.reduceMod, evW, fn_eq, evR, Nat.reduceAdd, Nat.reduceLT, Nat.reduceLeDiff, reduceIte, Nat.reduceEqDiff, reduceCtorEq, argEnv, eq_self, if_true, if_false]
                 repeat' ((first | rw [guardK_cases] | rw [condK_bool] | rw [guardD_cases]); split <;> simp only [c44, eBase, eSte, rSte, hlen, h81, n1, n2, n3, n4, n5, n6, n7, n8, evX, Int.reduceEq, Int.reduceLT, Int.reduceLE, Nat.reduceMul, Nat.reduceMod, evW, evR, Nat.reduceAdd, Nat.reduceLT, Nat.reduceLeDiff, reduceIte, Nat.reduceEqDiff, reduceCtorEq, argEnv, eq_self, if_true, if_false, *])
    · have n8 : 0 ≤ a := by omega
      have hw : IntKind.i64.wrap (a + 1) = a + 1 := wrap_i64 (by omega) (by omega)
      simp only [c44, eBase, eSte, rSte, hlen, h81, n1, n2, n3, n4, n5, n6, n7, n8, hw, evX, Int.reduceEq, Int.reduceLT, Int.reduceLE, Nat.reduceMul, Nat.reduceMod, evW, fn_eq, evR, Nat.reduceAdd, Nat.reduceLT, Nat.reduceLeDiff, reduceIte, Nat.reduceEqDiff, reduceCtorEq, argEnv, eq_self, if_true, if_false]
      repeat' ((first | rw [guardK_cases] | rw [condK_bool] | rw [guardD_cases]); split <;> simp only [c44, eBase, eSte, rSte, hlen, h81, n1, n2, n3, n4, n5, n6, n7, n8, hw, evX, Int.reduceEq, Int.reduceLT, Int.reduceLE, Nat.reduceMul, Nat.reduceMod, evW, evR, Nat.reduceAdd, Nat.reduceLT, Nat.reduceLeDiff, reduceIte, Nat.reduceEqDiff, reduceCtorEq, argEnv, eq_self, if_true, if_false, *])
theorem f29 (b : Base) (hb : b.Ok) (s : Ste) (hl : s.items.length < 9223372036854775807) (H : Heap) : cal (evC cprog) false 29 [eBase b, eSte s] H = some (bEr (validB b && forestOk b.types s.items && numOk s) (if validB b = true then 0 else 100), H) := by
  rw [cal_of at29]
  have h43 := f43 b hb
  have h44 := f44 b hb s hl
  cases hv : validB b
  all_goals
    simp only [hv, Bool.true_and, Bool.false_and] at h43 h44
    simp only [eSte, rSte, eBase] at h43 h44
    simp only [c29, eBase, eSte, rSte, bEr, h43, h44, evX, Int.reduceEq, Int.reduceLT, Int.reduceLE, Nat.reduceMul, Nat.reduceMod, evW, fn_eq, evR, Nat.reduceAdd, Nat.reduceLT, Nat.reduceLeDiff, reduceIte, Nat.reduceEqDiff, reduceCtorEq, argEnv, eq_self, if_true, if_false]
    repeat' ((first | rw [guardK_cases] | rw [condK_bool] | rw [guardD_cases]); split <;> simp only [c29, eBase, eSte, rSte, bEr, h43, h44, evX, Int.reduceEq, Int.reduceLT, Int.reduceLE, Nat.reduceMul, Nat.reduceMod, evW, evR, Nat.reduceAdd, Nat.reduceLT, Nat.reduceLeDiff, reduceIte, Nat.reduceEqDiff, reduceCtorEq, argEnv, eq_self, if_true, if_false, *])
theorem f12 (b : Base) (hb : b.Ok) (f : List Item) (hl : f.length ≤ 1000) (H : Heap) : cal (evC cprog) true 12 [eBase b, eItems f] H = some (.tup [eSte (fstS b f), .int .i64 (forE b f)], H) := by
  rw [cal_of at12]
  have h41 := f41 b hb f
  have h42 := f42 f hl
  simp only [eSte, rSte, staF] at h42
  cases hv : validB b <;> cases hf : forestOk b.types f
  all_goals
    simp only [eBase, bEr, hv, hf, if_true, if_false, Bool.false_eq_true, Bool.and_self, Bool.and_false, Bool.false_and] at h41
    have e : forE b f = if validB b = true then (if forestOk b.types f = true then 0 else 140) else 100 := rfl
    rw [hv, hf] at e
    simp only [if_true, if_false, Bool.false_eq_true] at e
    rw [fstS, e]
    simp only [c12, eBase, h41, h42, evX, Int.reduceEq, Int.reduceLT, Int.reduceLE, Nat.reduceMul, Nat.reduceMod, evW, fn_eq, evR, Nat.reduceAdd, Nat.reduceLT, Nat.reduceLeDiff, reduceIte, Nat.reduceEqDiff, reduceCtorEq, argEnv, eq_self, if_true, if_false]
    repeat' ((first | rw [guardK_cases] | rw [condK_bool] | rw [guardD_cases]); split <;> simp only [c12, eBase, h41, h42, evX, Int.reduceEq, Int.reduceLT, Int.reduceLE, Nat.reduceMul, Nat.reduceMod, evW, evR, Nat.reduceAdd, Nat.reduceLT, Nat.reduceLeDiff, reduceIte, Nat.reduceEqDiff, reduceCtorEq, argEnv, eq_self, if_true, if_false, *])
    exact calK_frz (ids := []) rfl rfl (by simp) (by simp)
theorem f13 (b : Base) (hb : b.Ok) (f : List Item) (hl : f.length ≤ 1000) (H : Heap) : cal (evC cprog) true 13 [eBase b, eItems f] H = some (.tup [eSte (fstS b f), .int .i64 (forE b f)], H) := by
  rw [cal_of at13]
  have h43 := f43 b hb
  have h44 := f44 b hb (staF f) (by simp only [staF]; omega)
  rw [numOk_staF, Bool.and_true] at h44
  simp only [eSte, rSte, staF, eBase] at h43 h44
  have hfa := fapp_items hl
  cases hv : validB b <;> cases hf : forestOk b.types f
  all_goals
    simp only [hv, hf, Bool.and_self, Bool.and_false, Bool.false_and] at h43 h44
    have e : forE b f = if validB b = true then (if forestOk b.types f = true then 0 else 140) else 100 := rfl
    rw [hv, hf] at e
    simp only [if_true, if_false, Bool.false_eq_true] at e
    rw [fstS, e]
    simp only [c13, eBase, h43, h44, hfa, cells_eItems, isTup_eItems, evX, Int.reduceEq, Int.reduceLT, Int.reduceLE, Nat.reduceMul, Nat.reduceMod, evW, fn_eq, evR, Nat.reduceAdd, Nat.reduceLT, Nat.reduceLeDiff, reduceIte, Nat.reduceEqDiff, reduceCtorEq, argEnv, eq_self, if_true, if_false]
    repeat' ((first | rw [guardK_cases] | rw [condK_bool] | rw [guardD_cases]); split <;> simp only [c13, eBase, h43, h44, hfa, cells_eItems, isTup_eItems, evX, Int.reduceEq, Int.reduceLT, Int.reduceLE, Nat.reduceMul, Nat.reduceMod, evW, evR, Nat.reduceAdd, Nat.reduceLT, Nat.reduceLeDiff, reduceIte, Nat.reduceEqDiff, reduceCtorEq, argEnv, eq_self, if_true, if_false, *])
    exact calK_frz (ids := []) rfl rfl (by simp) (by simp)
theorem f30 (s t : Ste) (hl : s.items.length < 9223372036854775807) (H : Heap) : cal (evC cprog) false 30 [eSte s, eSte t] H = some (.bool (sameS s t), H) := by
  rw [cal_of at30]
  have h58 := f58 s.items t.items hl
  by_cases n1 : s.at' = t.at' <;> by_cases n2 : s.next = t.next <;> by_cases n3 : s.parent = t.parent
  all_goals
    cases n4 : s.held == t.held
    all_goals
      simp only [c30, eSte, rSte, h58, n1, n2, n3, n4, evX, Int.reduceEq, Int.reduceLT, Int.reduceLE, Nat.reduceMul, Nat.reduceMod, evW, fn_eq, evR, Nat.reduceAdd, Nat.reduceLT, Nat.reduceLeDiff, reduceIte, Nat.reduceEqDiff, reduceCtorEq, argEnv, eq_self, if_true, if_false]
      repeat' ((first | rw [guardK_cases] | rw [condK_bool] | rw [guardD_cases]); split <;> simp only [c30, eSte, rSte, h58, n1, n2, n3, n4, evX, Int.reduceEq, Int.reduceLT, Int.reduceLE, Nat.reduceMul, Nat.reduceMod, evW, evR, Nat.reduceAdd, Nat.reduceLT, Nat.reduceLeDiff, reduceIte, Nat.reduceEqDiff, reduceCtorEq, argEnv, eq_self, if_true, if_false, *])
      simp [sameS, n1, n2, n3, n4]
theorem f16 (s t : Ste) (hl : s.items.length < 9223372036854775807) (H : Heap) : cal (evC cprog) false 16 [eSte s, eSte t] H = some (.bool (sameS s t), H) := by
  rw [cal_of at16]
  have h23 := f23 s.items t.items hl
  cases n0 : same s.items t.items <;> by_cases n1 : s.at' = t.at' <;> by_cases n2 : s.next = t.next <;> by_cases n3 : s.parent = t.parent
  all_goals
    simp only [c16, eSte, rSte, h23, n0, n1, n2, n3, evX, Int.reduceEq, Int.reduceLT, Int.reduceLE, Nat.reduceMul, Nat.reduceMod, evW, fn_eq, evR, Nat.reduceAdd, Nat.reduceLT, Nat.reduceLeDiff, reduceIte, Nat.reduceEqDiff, reduceCtorEq, argEnv, eq_self, if_true, if_false]
    repeat' ((first | rw [guardK_cases] | rw [condK_bool] | rw [guardD_cases]); split <;> simp only [c16, eSte, rSte, h23, n0, n1, n2, n3, evX, Int.reduceEq, Int.reduceLT, Int.reduceLE, Nat.reduceMul, Nat.reduceMod, evW, evR, Nat.reduceAdd, Nat.reduceLT, Nat.reduceLeDiff, reduceIte, Nat.reduceEqDiff, reduceCtorEq, argEnv, eq_self, if_true, if_false, *])
    simp [sameS, n0, n1, n2, n3]
end Go.Proofs.YtbdpceigmnpoaaaGreatDoor.Code

/- call: all functions are held, by the kernel's look or by a proof of their own (without slices.Insert). -/
set_option linter.unusedSimpArgs false
set_option linter.unusedVariables false
namespace Go.Proofs.YtbdpceigmnpoaaaGreatDoor.Code
open Go.Proofs.YtbdpceigmnpoaaaGreatDoor.Ev

theorem cprog_sound {f : Nat} {c : CFn} (h : cprog f = some c) : okFn Go.Proofs.Tryz.prog f c = true ∨ Held Go.Proofs.Tryz.prog f c := by
  rcases cprog_ok h with h | h
  · exact .inl h
  · simp only [utab, List.mem_cons, Prod.mk.injEq, List.not_mem_nil, or_false] at h
    repeat' (refine Or.elim h ?_ ?_ <;> clear h <;> intro h)
    all_goals
      obtain ⟨rfl, rfl⟩ := h
      first | exact .inr (.inl (userRepl rfl rfl rfl rfl)) | exact .inr (.inl (userIdx rfl rfl rfl rfl)) | exact .inr (.inl (userCmp rfl rfl rfl rfl))
end Go.Proofs.YtbdpceigmnpoaaaGreatDoor.Code

/- Closed runs: what is asked again and again is looked up. -/
set_option linter.unusedSimpArgs false
set_option linter.unusedVariables false
namespace Go.Proofs.YtbdpceigmnpoaaaGreatDoor.Ev

/-- the evaluator, with answers known ahead -/
def evCallO (prog : Nat → Option CFn) (orc : Nat → List AV → Option (AV × Heap)) : Nat → Nat → List AV → Heap → Option (AV × Heap)
  | 0, _, _, _ => none
  | k + 1, f, args, H => match orc f args with
    | some (v, X) => some (v, H ++ X)
    | none => match prog f with
      | some c => evFn (evCallO prog orc k) (fun body => iter body k) c args H
      | none => none
theorem evCallO_le {prog : Nat → Option CFn} {orc : Nat → List AV → Option (AV × Heap)} (h : ∀ f args v X, orc f args = some (v, X) → ∀ H, evC prog f args H = some (v, H ++ X)) : ∀ n, CallLe (evCallO prog orc n) (evC prog)
  | 0, f, args, H, r, hx => by simp [evCallO] at hx
  | n + 1, f, args, H, r, hx => by
    simp only [evCallO] at hx
    cases ho : orc f args with
    | some p =>
      obtain ⟨v, X⟩ := p
      rw [ho] at hx
      cases hx
      exact h f args v X ho H
    | none =>
      rw [ho] at hx
      simp only at hx
      cases hc : prog f with
      | none => rw [hc] at hx; cases hx
      | some c =>
        rw [hc] at hx
        rw [evC_fn hc]
        exact evFn_le (evCallO_le h n) (fun b1 b2 hb s r hr => itLim_some.2 ⟨n, iter_le hb n n (Nat.le_refl _) s r hr⟩) hx
end Go.Proofs.YtbdpceigmnpoaaaGreatDoor.Ev
namespace Go.Proofs.YtbdpceigmnpoaaaGreatDoor.Code
open Go.Proofs.YtbdpceigmnpoaaaGreatDoor.Ev

/-- the base of the chapter's example -/
def shop : Base := ⟨⟨#[83, 72, 79, 80]⟩, 4, [
  ⟨⟨#[67, 85, 83, 84]⟩, -1, 1, 10, [⟨⟨#[67, 85, 83, 84, 78, 79]⟩, 0, 1⟩], 0, true, false⟩,
  ⟨⟨#[79, 82, 68, 69, 82]⟩, 0, 1, 12, [⟨⟨#[79, 82, 68, 78, 79]⟩, 0, 1⟩], 0, true, false⟩,
  ⟨⟨#[73, 84, 69, 77]⟩, 1, 1, 8, [], -1, false, true⟩,
  ⟨⟨#[80, 72, 79, 78, 69]⟩, 0, 1, 8, [], -1, false, false⟩], []⟩
theorem shop_ok : shop.Ok := by
  refine ⟨by decide, by decide, fun t ht => ?_, by decide, fun x hx => by cases hx⟩
  simp only [shop, List.mem_cons, List.not_mem_nil, or_false] at ht
  rcases ht with rfl | rfl | rfl | rfl
  all_goals
    refine ⟨by decide, by decide, fun f hf => ?_⟩
    first | (cases hf; done) | (simp only [List.mem_cons, List.not_mem_nil, or_false] at hf; subst hf; exact ⟨by decide⟩)
theorem e75 (b : Base) (hb : b.Ok) (H : Heap) : evC cprog 75 [eBase b] H = some (.bool (validB b), H ++ [bBase b]) := by
  rw [evC_fn at75]
  have h1 := f113 b.name hb.name
  have h2 := f114 b.types hb.type
  have h3 := f115 b.types b.indexes hb.indexes hb.index
  simp only [c75, eBase, h1, h2, h3, bBase, evX, Int.reduceEq, Int.reduceLT, Int.reduceLE, Nat.reduceMul, Nat.reduceMod, evW, fn_eq, evR, Nat.reduceAdd, Nat.reduceLT, Nat.reduceLeDiff, reduceIte, Nat.reduceEqDiff, reduceCtorEq, argEnv, eq_self, if_true, if_false]
  repeat' ((first | rw [guardK_cases] | rw [condK_bool] | rw [guardD_cases]); split <;> simp only [c75, eBase, h1, h2, h3, bBase, evX, Int.reduceEq, Int.reduceLT, Int.reduceLE, Nat.reduceMul, Nat.reduceMod, evW, evR, Nat.reduceAdd, Nat.reduceLT, Nat.reduceLeDiff, reduceIte, Nat.reduceEqDiff, reduceCtorEq, argEnv, eq_self, if_true, if_false, *])
  all_goals (simp_all [validB]; try (intros; omega))
theorem shop_valid : validB shop = true := by
  have h1 : evCall cprog 100 75 [eBase shop] [] = some (.bool true, [bBase shop]) := by kernel_rfl
  have h2 := evC_of h1
  rw [e75 shop shop_ok] at h2
  simpa using h2
def orc75 (f : Nat) (args : List AV) : Option (AV × Heap) := if f = 75 then (if AV.beqL args [eBase shop] = true then some (.bool true, [bBase shop]) else none) else none
theorem orc_ok (f : Nat) (args : List AV) (v : AV) (X : Heap) (h : orc75 f args = some (v, X)) (H : Heap) : evC cprog f args H = some (v, H ++ X) := by
  unfold orc75 at h
  split at h
  case isFalse => cases h
  rename_i hf
  split at h
  case isFalse => cases h
  rename_i ha
  cases h
  rw [AV.eq_of_beqL _ _ ha, hf, e75 shop shop_ok, shop_valid]
theorem first_run : evCallO cprog orc75 300 10 [] [] = some (.bool true, []) := by kernel_rfl
theorem closed_any {call it} {c : CFn} {b : Bool} (hc : c.closed = true) (h : evFn call it c [] [] = some (.bool b, [])) (H : Heap) : evFn call it c [] H = some (.bool b, H) := by
  unfold evFn at h ⊢
  rw [if_pos hc] at h ⊢
  simp only at h ⊢
  split at h
  · cases h; rfl
  · cases h
theorem f10 (H : Heap) : cal (evC cprog) false 10 [] H = some (.bool true, H) := by
  have h := evCallO_le orc_ok 300 10 [] [] _ first_run
  rw [evC_fn at10] at h
  rw [cal_of at10, closed_any rfl h H, calK_f, gc_same]
end Go.Proofs.YtbdpceigmnpoaaaGreatDoor.Code

/- The law CallFirst is true. -/
set_option linter.unusedSimpArgs false
set_option linter.unusedVariables false
namespace Go.Proofs.YtbdpceigmnpoaaaGreatDoor.Code
open Go.Proofs.YtbdpceigmnpoaaaGreatDoor.Ev Go.RowKit

theorem open_Ste {a : AV} (h : ArgTy true [.sl [.int .i64, .str], .int .i64, .int .i64, .int .i64, .bool] a) : ∃ s : Ste, a = eSte s ∧ s.items.length < 9223372036854775807 := by
  obtain ⟨bs, rfl, h⟩ := h
  simp only [HasL.eq_2, HasL.eq_1, Has] at h
  obtain ⟨_, _, rfl, ⟨l, rfl, hl, hr⟩, _, _, rfl, ⟨n, rfl, _⟩, _, _, rfl, ⟨m, rfl, _⟩, _, _, rfl, ⟨p, rfl, _⟩, _, _, rfl, ⟨c, rfl⟩, rfl⟩ := h
  obtain ⟨us, rfl, _⟩ := typed (P := HasL [.int .i64, .str]) (fun r h => open_Item h) l (fun r h => by simpa only [HasL.eq_2, HasL.eq_1, Has] using hr r h)
  exact ⟨⟨us, n, m, p, c⟩, rfl, reach_lt (by simpa using hl)⟩
set_option maxHeartbeats 4000000 in
theorem f6 (b : Base) (hb : b.Ok) (s t : Ste) (hs : s.items.length < 9223372036854775807) (ht : t.items.length < 9223372036854775807) : ∃ H', evC cprog 6 [eBase b, eSte s, eSte t] [] = some (.bool true, H') := by
  have h11s := f11 b hb s.items hs
  have h11t := f11 b hb t.items ht
  have h10 := f10
  simp only [eBase] at h11s h11t
  rw [evC_fn at6]
  cases hss : small b s.items with
  | false =>
    simp only [c6, eBase, eSte, rSte, h10, h11s, hss, evX, Int.reduceEq, Int.reduceLT, Int.reduceLE, Nat.reduceMul, Nat.reduceMod, evW, fn_eq, evR, Nat.reduceAdd, Nat.reduceLT, Nat.reduceLeDiff, reduceIte, Nat.reduceEqDiff, reduceCtorEq, argEnv, eq_self, if_true, if_false]
    repeat' ((first | rw [guardK_cases] | rw [condK_bool] | rw [guardD_cases]); split <;> simp only [c6, eBase, eSte, rSte, h10, h11s, hss, evX, Int.reduceEq, Int.reduceLT, Int.reduceLE, Nat.reduceMul, Nat.reduceMod, evW, evR, Nat.reduceAdd, Nat.reduceLT, Nat.reduceLeDiff, reduceIte, Nat.reduceEqDiff, reduceCtorEq, argEnv, eq_self, if_true, if_false, *])
    all_goals exact ⟨_, rfl⟩
  | true =>
    cases hst : small b t.items with
    | false =>
      simp only [c6, eBase, eSte, rSte, h10, h11s, h11t, hss, hst, evX, Int.reduceEq, Int.reduceLT, Int.reduceLE, Nat.reduceMul, Nat.reduceMod, evW, fn_eq, evR, Nat.reduceAdd, Nat.reduceLT, Nat.reduceLeDiff, reduceIte, Nat.reduceEqDiff, reduceCtorEq, argEnv, eq_self, if_true, if_false]
      repeat' ((first | rw [guardK_cases] | rw [condK_bool] | rw [guardD_cases]); split <;> simp only [c6, eBase, eSte, rSte, h10, h11s, h11t, hss, hst, evX, Int.reduceEq, Int.reduceLT, Int.reduceLE, Nat.reduceMul, Nat.reduceMod, evW, evR, Nat.reduceAdd, Nat.reduceLT, Nat.reduceLeDiff, reduceIte, Nat.reduceEqDiff, reduceCtorEq, argEnv, eq_self, if_true, if_false, *])
      all_goals exact ⟨_, rfl⟩
    | true =>
      have hl : s.items.length ≤ 1000 := by simp only [small, Bool.and_eq_true, decide_eq_true_eq] at hss; omega
      have h12 := f12 b hb s.items hl
      have h13 := f13 b hb s.items hl
      have h18 := f18 b hb s hs
      have h29 := f29 b hb s hs
      have h30 := f30 s t hs
      have h16 := f16 s t hs
      have h30s := f30 s s hs
      have hfl : (fstS b s.items).items.length < 9223372036854775807 := by
        unfold fstS; split
        · exact hs
        · simp [sta0]
      have h16f := f16 (fstS b s.items) (fstS b s.items) hfl
      rw [sameS_self] at h16f h30s
      generalize fstS b s.items = x at *
      generalize forE b s.items = e at *
      generalize (validB b && forestOk b.types s.items && numOk s) = v at *
      generalize (if validB b = true then (0 : Int) else 100) = g at *
      generalize sameS s t = r at *
      simp only [eBase, eSte, rSte, bEr] at h12 h13 h18 h29 h30 h16 h30s h16f
      simp only [c6, eBase, eSte, rSte, h10, h11s, h11t, hss, hst, h12, h13, h18, h29, h30, h16, h30s, h16f, beq_self_eq_true, evX, Int.reduceEq, Int.reduceLT, Int.reduceLE, Nat.reduceMul, Nat.reduceMod, evW, fn_eq, evR, Nat.reduceAdd, Nat.reduceLT, Nat.reduceLeDiff, reduceIte, Nat.reduceEqDiff, reduceCtorEq, argEnv, eq_self, if_true, if_false]
      repeat' ((first | rw [guardK_cases] | rw [condK_bool] | rw [guardD_cases]); split <;> simp only [c6, eBase, eSte, rSte, h10, h11s, h11t, hss, hst, h12, h13, h18, h29, h30, h16, h30s, h16f, beq_self_eq_true, evX, Int.reduceEq, Int.reduceLT, Int.reduceLE, Nat.reduceMul, Nat.reduceMod, evW, evR, Nat.reduceAdd, Nat.reduceLT, Nat.reduceLeDiff, reduceIte, Nat.reduceEqDiff, reduceCtorEq, argEnv, eq_self, if_true, if_false, *])
      all_goals exact ⟨_, rfl⟩
end Go.Proofs.YtbdpceigmnpoaaaGreatDoor.Code
namespace Go.Proofs.YtbdpceigmnpoaaaGreatDoor.Pure
open Go.Proofs.YtbdpceigmnpoaaaGreatDoor.Ev Go.Proofs.YtbdpceigmnpoaaaGreatDoor.Code
theorem CallFirst (a0 : AV) (t0 : ArgTy true [.str, .int .i64, .sl [.str, .int .i64, .int .i64, .int .i64, .sl [.str, .int .i64, .int .i64], .int .i64, .bool, .bool], .sl [.str, .int .i64, .int .i64, .str]] a0)
    (a1 : AV) (t1 : ArgTy true [.sl [.int .i64, .str], .int .i64, .int .i64, .int .i64, .bool] a1) (a2 : AV) (t2 : ArgTy true [.sl [.int .i64, .str], .int .i64, .int .i64, .int .i64, .bool] a2) : ∃ H', evC cprog 6 [a0, a1, a2] [] = some (.bool true, H') := by
  obtain ⟨b, rfl, hb⟩ := open_Base t0
  obtain ⟨s, rfl, hs⟩ := open_Ste t1
  obtain ⟨t, rfl, ht⟩ := open_Ste t2
  exact f6 b hb s t hs ht
end Go.Proofs.YtbdpceigmnpoaaaGreatDoor.Pure

