/- plain: which lists are forests, as the program asks. -/
import Derived.Test.YtcbmakanokmdjaaRo
set_option linter.unusedSimpArgs false
set_option linter.unusedVariables false
namespace Go.Proofs.Ytcbmakanokmdjaa.Code
open Go.Proofs.Ytcbmakanokmdjaa.Ev

theorem idxOf_cases {α : Type} (p : α → Bool) (l : List α) : (idxOf p l = -1 ∧ ∀ a ∈ l, p a = false) ∨ ∃ (m : Nat) (a : α), idxOf p l = (m : Int) ∧ l[m]? = some a ∧ p a = true := by
  unfold idxOf
  cases h : l.findIdx? p with
  | none => exact .inl ⟨rfl, List.findIdx?_eq_none_iff.1 h⟩
  | some m =>
    obtain ⟨h1, h2, _⟩ := List.findIdx?_eq_some_iff_getElem.1 h
    exact .inr ⟨m, l[m], rfl, List.getElem?_eq_getElem h1, h2⟩
theorem forest_bad {ts : List Ty} {f : List Item} {i : Nat} {x : Item} (hx : f[i]? = some x) (h : okAt ts f i x = false) : tell (∀ (i : Nat) (x : Item), f[i]? = some x → okAt ts f i x = true) = false := tell_neg fun h' => by
  rw [h' i x hx] at h; cases h
theorem way_len (ts : List Ty) (f : List Item) (i : Nat) : (way ts f i).length ≤ i := wayTo_len _ i
theorem way_bound {ts : List Ty} {f : List Item} {i : Nat} {a : Int} (h : a ∈ way ts f i) : 0 ≤ a ∧ a < (i : Int) := by
  cases i with
  | zero => cases h
  | succ i => have := pth_bound (ts := ts) (f := f) (i := i) h; omega
theorem cut_two {H X : Heap} {rvw rvl : AV} {w : List Int} (hw : Out H.length 1 3 X rvw (w.map rI)) (hl : Out H.length 1 3 X rvl ((w ++ [-1]).map rI)) (hd : oblk rvw = none ∨ oblk rvw ≠ oblk rvl) (hne : oblk rvl ≠ none) (i : Int) (hwl : w.length ≤ 1000) (n : Nat) (hn : n ≤ w.length) (Y : Heap) :
    ∃ sv1 sv2 rvw' rvl' X1 X2, sv1.isTup = false ∧ sv2.isTup = false ∧ (∀ Z, evSlc Z 1 rvw none (some n) none = some sv1) ∧ (∀ Z, evSlc Z 1 rvl none (some n) none = some sv2) ∧
      appK 3 1 8 false (H ++ (X ++ Y)) (some sv1) (some (.lst [[.int .i64 i]])) = some (rvw', H ++ X1) ∧ appK 3 1 8 false (H ++ X1) (some sv2) (some (.lst [[.int .i64 i], [.int .i64 (-1)]])) = some (rvl', H ++ X2) ∧
      rvw'.isTup = false ∧ rvl'.isTup = false ∧ Out H.length 1 3 X2 rvw' ((w.take n ++ [i]).map rI) ∧ Out H.length 1 3 X2 rvl' (((w.take n ++ [i]) ++ [-1]).map rI) ∧ (oblk rvw' = none ∨ oblk rvw' ≠ oblk rvl') ∧ oblk rvl' ≠ none := by
  obtain ⟨sv1, a1, a2, a3⟩ := hw.cut2 H rfl (k := n) (by simpa using hn)
  obtain ⟨rvw', X1, b1, b2, b3, b4, b5⟩ := a3 Y 8 (.lst [[.int .i64 i]]) [[.int .i64 i]] (by simp) rfl rfl (by simp [reach]; omega) (by simp [reach]; omega)
  have hl' : oblk rvl = none ∨ oblk rvl ≠ oblk rvw := .inr fun e => by rcases hd with hd | hd; (· exact hne (e.trans hd)); exact hd e.symm
  have hl1 := b4.out (hl.more Y) hl'
  have hap := b5.apart hl hl'
  obtain ⟨sv2, c1, c2, c3⟩ := hl1.cut2 H rfl (k := n) (by simp; omega)
  obtain ⟨rvl', X2, d1, d2, d3, d4, d5⟩ := c3 [] 8 (.lst [[.int .i64 i], [.int .i64 (-1)]]) [[.int .i64 i], [.int .i64 (-1)]] (by simp) rfl rfl (by simp [reach]; omega) (by simp [reach]; omega)
  simp only [List.append_nil] at d1 d4
  have hb : oblk rvw' = none ∨ oblk rvw' ≠ oblk rvl := .inr fun e => by rcases hap with h | h; (· exact hne h); exact h e.symm
  have hw2 := d4.out b3 hb
  have hap2 := d5.apart b3 hb
  refine ⟨sv1, sv2, rvw', rvl', X1, X2, a1, c1, a2, c2, b1, d1, b2, d2, ?_, ?_, hap2, ?_⟩
  · simpa [List.map_take, rI] using hw2
  · have e : List.take n (w ++ [-1]) = List.take n w := List.take_append_of_le_length hn
    rw [← List.map_take, e] at d3
    simpa [rI] using d3
  · rcases d5 with ⟨h1, h2⟩ | ⟨m, _, h⟩
    · rw [h2]; exact h1
    · rw [h]; simp
theorem bad_sib {ts : List Ty} {f : List Item} {i : Nat} {x : Item} (h : sibOk ts f i x = false) : okAt ts f i x = false := by simp [okAt, h]
set_option maxHeartbeats 2000000 in
theorem l33 (b : Base) (ht : tysOk b.types = true) (f : List Item) (h200 : f.length ≤ 200) (H : Heap) (b1 b2 : Nat) (hs1 : Sits H b1 (bBase b)) (hs2 : Sits H b2 (bItems f)) (X0 : Heap) (rv0 : AV) (hO0 : Out H.length 1 3 X0 rv0 ([-1].map rI)) (hn0 : oblk rv0 ≠ none) (st : St)
    (hE : keepEnv st.1 [2, 3, 5, 6, 16, 17, 18] = [(2, .ptr b1 0 4 0 0), (3, .ptr b2 0 1 0 0), (5, .nils), (6, rv0), (16, eItems f), (17, .int .i64 (f.length : Int)), (18, .int .i64 0)]) (hH : st.2 = H ++ X0) (z : Option (CX × St)) (hz : itLim (evCode (evC cprog) itLim c33_l0) st = z) :
    ∃ c T X, z = some (c, T, H ++ X) ∧ ((tell (∀ (i : Nat) (x : Item), f[i]? = some x → okAt b.types f i x = true) = true ∧ c = .exit 0) ∨ (tell (∀ (i : Nat) (x : Item), f[i]? = some x → okAt b.types f i x = true) = false ∧ c = .ret ∧ get T 4 = some (.bool false))) := by
  have L := loop_rule (σ := Nat × Heap × AV × AV) (m := [2, 3, 5, 6, 16, 17, 18]) (env := fun s => [(2, .ptr b1 0 4 0 0), (3, .ptr b2 0 1 0 0), (5, s.2.2.1), (6, s.2.2.2), (16, eItems f), (17, .int .i64 (f.length : Int)), (18, .int .i64 (s.1 : Int))]) (hp := fun s => H ++ s.2.1)
    (P := fun s r => ∃ c T X, r = (c, T, H ++ X) ∧ ((tell (∀ (i : Nat) (x : Item), f[i]? = some x → okAt b.types f i x = true) = true ∧ c = .exit 0) ∨ (tell (∀ (i : Nat) (x : Item), f[i]? = some x → okAt b.types f i x = true) = false ∧ c = .ret ∧ get T 4 = some (.bool false))))
    (mu := fun s => f.length - s.1) (I := fun s => s.1 ≤ f.length ∧ FOk b.types f s.1 ∧ Out H.length 1 3 s.2.1 s.2.2.1 ((way b.types f s.1).map rI) ∧ Out H.length 1 3 s.2.1 s.2.2.2 ((way b.types f s.1 ++ [-1]).map rI) ∧ (oblk s.2.2.1 = none ∨ oblk s.2.2.1 ≠ oblk s.2.2.2) ∧ oblk s.2.2.2 ≠ none)
    (evCode (evC cprog) itLim c33_l0) ?_ (0, X0, .nils, rv0) st ⟨by simp, fun j x h => by simp at h, .nils .., hO0, .inl rfl, hn0⟩ hE hH z hz
  · obtain ⟨r, rfl, c, T, X, rfl, h⟩ := L
    exact ⟨c, T, X, rfl, h⟩
  · intro ⟨i, X, rvw, rvl⟩ ⟨hi, hf, hw, hl, hd, hne⟩ E hE
    simp only at hi hf hw hl hd hne hE ⊢
    by_cases hlt : i < f.length
    · obtain ⟨x, hx⟩ : ∃ x, f[i]? = some x := ⟨_, List.getElem?_eq_getElem hlt⟩
      have hi1 : (i : Int) < (f.length : Int) := by omega
      have ha := aItem hx
      have h42 := f42 b x
      have hs := hs1
      have hs' := hs2
      simp only [bBase, bItems, Sits] at hs hs'
      simp only [eBase, rItem] at h42
      have hwl := way_len b.types f i
      cases hft : fits b.types x with
      | false =>
        simp only [c33_l0, hE, hi1, ha, hs, hs', h42, hft, rItem, evX, Int.reduceEq, Int.reduceLT, Int.reduceLE, Nat.reduceMul, Nat.reduceMod, evW, fn_eq, evR, Nat.reduceAdd, Nat.reduceLT, Nat.reduceLeDiff, reduceIte, Nat.reduceEqDiff, reduceCtorEq, argEnv, eq_self, if_true, if_false]
        repeat' ((first | rw [guardK_cases] | rw [condK_bool] | rw [guardD_cases]); split <;> simp only [c33_l0, hE, hi1, ha, hs, hs', h42, hft, rItem, evX, Int.reduceEq, Int.reduceLT, Int.reduceLE, Nat.reduceMul, Nat.reduceMod, evW, evR, Nat.reduceAdd, Nat.reduceLT, Nat.reduceLeDiff, reduceIte, Nat.reduceEqDiff, reduceCtorEq, argEnv, eq_self, if_true, if_false, *])
        exact q_ret ⟨_, _, _, rfl, .inr ⟨forest_bad hx (by simp [okAt, hft]), rfl, by rfl⟩⟩
      | true =>
        obtain ⟨k, t, hk, hkl, htk, hmin, hmax⟩ := fits_some hft
        have hat := aTy htk
        rw [← hk] at hat
        have hxt := typ_at hx
        have hpt : tpar b.types x.type = t.parent := by rw [hk, tpar_at htk]
        have hty : tyOk t = true := by have := tell_true.1 ht k t htk; simp only [tyAt, Bool.and_eq_true] at this; exact this.1.1.1
        have htyo : tyOf b.types x.type = t := by rw [hk, tyOf_at htk]
        have hwi := wrapS hlt (by omega)
        -- what comes behind a place that was found
        have fin : ∀ (n : Nat), n ≤ (way b.types f i).length → ∃ p kk, iaddrK 1 (some rvl) (some (.int .i64 (n : Int))) = some p ∧ (∀ Y, loadK false 1 (H ++ (X ++ Y)) (some p) = some (.int .i64 kk)) ∧ (kk = -1 ∧ (way b.types f i)[n]? = none ∨ ∃ a y, kk = ((a : Nat) : Int) ∧ (way b.types f i)[n]? = some kk ∧ f[a]? = some y ∧ a < i) := fun n hn => by
          have hsl := out_slat hl H rfl (fun r hr => by obtain ⟨n, _, rfl⟩ := List.mem_map.1 hr; rfl)
          by_cases e : n < (way b.types f i).length
          · obtain ⟨kk, hkk⟩ : ∃ kk, (way b.types f i)[n]? = some kk := ⟨_, List.getElem?_eq_getElem e⟩
            have hb := way_bound (List.mem_of_getElem? hkk)
            obtain ⟨_, p, g1, g2⟩ := hsl.get n (rI kk) (by rw [List.getElem?_map, List.getElem?_append_left e, hkk]; rfl)
            exact ⟨p, kk, g1, fun Y => by rw [← List.append_assoc]; exact g2.onex Y, .inr ⟨kk.toNat, _, by omega, hkk, List.getElem?_eq_getElem (by omega), by omega⟩⟩
          · obtain rfl : n = (way b.types f i).length := by omega
            obtain ⟨_, p, g1, g2⟩ := hsl.get (way b.types f i).length (rI (-1)) (by rw [List.getElem?_map, List.getElem?_append_right (by omega)]; simp)
            exact ⟨p, -1, g1, fun Y => by rw [← List.append_assoc]; exact g2.onex Y, .inl ⟨rfl, List.getElem?_eq_none (Nat.le_refl _)⟩⟩
        have done : ∀ (n : Nat), nOf b.types f i = n → pth b.types f i = (way b.types f i).take n ++ [(i : Int)] → (decide (tpar b.types x.type < 0) || tell (par b.types f i ∈ way b.types f i)) = true → sibOk b.types f i x = true → FOk b.types f (i + 1) ∧ way b.types f (i + 1) = (way b.types f i).take n ++ [(i : Int)] := fun n h1 h2 h3 h4 => by
          refine ⟨fun j y hj hy => ?_, h2⟩
          by_cases e : j < i
          · exact hf j y e hy
          · obtain rfl : j = i := by omega
            rw [hx] at hy; cases hy
            simp only [okAt, hft, h3, h4, Bool.and_self]
        have sibN : ∀ (n : Nat), nOf b.types f i = n → (way b.types f i)[n]? = none → sibOk b.types f i x = true := fun n h1 h2 => by simp only [sibOk, h1, h2]
        have sibS : ∀ (n : Nat) (a : Int), nOf b.types f i = n → (way b.types f i)[n]? = some a → sibOk b.types f i x = ordOk b.types f a x := fun n a h1 h2 => by simp only [sibOk, h1, h2]
        by_cases hp : t.parent < 0
        · have hp' : ¬ 0 ≤ t.parent := by omega
          have hpar : par b.types f i = -1 := by unfold par; rw [hxt, hpt, if_pos hp]
          have hnof : nOf b.types f i = 0 := by unfold nOf pthI; rw [hpar, ancI_neg _ (by omega)]; rfl
          have hpth : pth b.types f i = (way b.types f i).take 0 ++ [(i : Int)] := by rw [pth_eq _ _ hlt, hpar, pthI, ancI_neg _ (by omega)]; rfl
          have hpok : (decide (tpar b.types x.type < 0) || tell (par b.types f i ∈ way b.types f i)) = true := by rw [hpt, decide_eq_true hp]; rfl
          obtain ⟨p, kk, hp1, hp2, hkk⟩ := fin 0 (Nat.zero_le _)
          obtain ⟨sv1, sv2, rvw', rvl', X1, X2, e1, e2, e3, e4, e5, e6, e7, e8, e9, e10, e11, e12⟩ := cut_two hw hl hd hne (i : Int) (by omega) 0 (Nat.zero_le _) [bItem x, bI t.parent]
          simp only [bItem, bI, rItem] at e5
          simp only [Int.natCast_zero] at hp1
          rcases hkk with ⟨rfl, hkn⟩ | ⟨a, y, rfl, hks, hy, hai⟩
          · have hdn := done 0 hnof hpth hpok (sibN 0 hnof hkn)
            simp only [c33_l0, hE, hi1, ha, hs, hs', h42, hft, hat, rItem, rTy, hp', hp1, hp2, e1, e2, e3, e4, e5, e6, e7, e8, hwi, evX, Int.reduceEq, Int.reduceLT, Int.reduceLE, Nat.reduceMul, Nat.reduceMod, evW, fn_eq, evR, Nat.reduceAdd, Nat.reduceLT, Nat.reduceLeDiff, reduceIte, Nat.reduceEqDiff, reduceCtorEq, argEnv, eq_self, if_true, if_false]
            repeat' ((first | rw [guardK_cases] | rw [condK_bool] | rw [guardD_cases]); split <;> simp only [c33_l0, hE, hi1, ha, hs, hs', h42, hft, hat, rItem, rTy, hp', hp1, hp2, e1, e2, e3, e4, e5, e6, e7, e8, hwi, evX, Int.reduceEq, Int.reduceLT, Int.reduceLE, Nat.reduceMul, Nat.reduceMod, evW, evR, Nat.reduceAdd, Nat.reduceLT, Nat.reduceLeDiff, reduceIte, Nat.reduceEqDiff, reduceCtorEq, argEnv, eq_self, if_true, if_false, *])
            exact q_next (i + 1, X2, rvw', rvl') (by rfl) rfl ⟨by omega, hdn.1, by rw [hdn.2]; exact e9, by rw [hdn.2]; exact e10, e11, e12⟩ (by simp only; omega) fun r h => h
          · have hya := aItem hy
            have a0 : (0 : Int) ≤ (a : Int) := by omega
            have hyt := typ_at hy
            have hyd := dat_at hy
            have hsib := sibS 0 (a : Int) hnof hks
            simp only [ordOk, hyt, hyd, htyo] at hsib
            by_cases o1 : x.type < y.type
            · simp only [c33_l0, hE, hi1, ha, hs, hs', h42, hft, hat, rItem, rTy, hp', hp1, hp2, a0, hya, o1, evX, Int.reduceEq, Int.reduceLT, Int.reduceLE, Nat.reduceMul, Nat.reduceMod, evW, fn_eq, evR, Nat.reduceAdd, Nat.reduceLT, Nat.reduceLeDiff, reduceIte, Nat.reduceEqDiff, reduceCtorEq, argEnv, eq_self, if_true, if_false]
              repeat' ((first | rw [guardK_cases] | rw [condK_bool] | rw [guardD_cases]); split <;> simp only [c33_l0, hE, hi1, ha, hs, hs', h42, hft, hat, rItem, rTy, hp', hp1, hp2, a0, hya, o1, evX, Int.reduceEq, Int.reduceLT, Int.reduceLE, Nat.reduceMul, Nat.reduceMod, evW, evR, Nat.reduceAdd, Nat.reduceLT, Nat.reduceLeDiff, reduceIte, Nat.reduceEqDiff, reduceCtorEq, argEnv, eq_self, if_true, if_false, *])
              exact q_ret ⟨_, _, _, rfl, .inr ⟨forest_bad hx (bad_sib (by rw [hsib, decide_eq_false (show ¬ y.type < x.type by omega), decide_eq_false (show ¬ y.type = x.type by omega)]; rfl)), rfl, by rfl⟩⟩
            by_cases o2 : y.type = x.type
            · have hfy := fits_some (ok_fits (hf a y hai hy))
              obtain ⟨k', t', q1, _, q2, q3, _⟩ := hfy
              obtain rfl : k' = k := by omega
              rw [htk] at q2; cases q2
              have h59 := f59 t hty y.data x.data q3 hmin
              simp only [rTy] at h59
              have o0 : ¬ x.type < x.type := by omega
              cases o3 : inOrd t y.data x.data with
              | false =>
                simp only [c33_l0, hE, hi1, ha, hs, hs', h42, hft, hat, rItem, rTy, hp', hp1, hp2, a0, hya, o0, o2, h59, o3, evX, Int.reduceEq, Int.reduceLT, Int.reduceLE, Nat.reduceMul, Nat.reduceMod, evW, fn_eq, evR, Nat.reduceAdd, Nat.reduceLT, Nat.reduceLeDiff, reduceIte, Nat.reduceEqDiff, reduceCtorEq, argEnv, eq_self, if_true, if_false]
                repeat' ((first | rw [guardK_cases] | rw [condK_bool] | rw [guardD_cases]); split <;> simp only [c33_l0, hE, hi1, ha, hs, hs', h42, hft, hat, rItem, rTy, hp', hp1, hp2, a0, hya, o0, o2, h59, o3, evX, Int.reduceEq, Int.reduceLT, Int.reduceLE, Nat.reduceMul, Nat.reduceMod, evW, evR, Nat.reduceAdd, Nat.reduceLT, Nat.reduceLeDiff, reduceIte, Nat.reduceEqDiff, reduceCtorEq, argEnv, eq_self, if_true, if_false, *])
                exact q_ret ⟨_, _, _, rfl, .inr ⟨forest_bad hx (bad_sib (by rw [hsib, o3, decide_eq_false (show ¬ y.type < x.type by omega)]; simp)), rfl, by rfl⟩⟩
              | true =>
                rw [o2, o3] at hsib
                have hdn := done 0 hnof hpth hpok (by rw [hsib]; simp)
                simp only [c33_l0, hE, hi1, ha, hs, hs', h42, hft, hat, rItem, rTy, hp', hp1, hp2, a0, hya, o0, o2, h59, o3, e1, e2, e3, e4, e5, e6, e7, e8, hwi, evX, Int.reduceEq, Int.reduceLT, Int.reduceLE, Nat.reduceMul, Nat.reduceMod, evW, fn_eq, evR, Nat.reduceAdd, Nat.reduceLT, Nat.reduceLeDiff, reduceIte, Nat.reduceEqDiff, reduceCtorEq, argEnv, eq_self, if_true, if_false]
                repeat' ((first | rw [guardK_cases] | rw [condK_bool] | rw [guardD_cases]); split <;> simp only [c33_l0, hE, hi1, ha, hs, hs', h42, hft, hat, rItem, rTy, hp', hp1, hp2, a0, hya, o0, o2, h59, o3, e1, e2, e3, e4, e5, e6, e7, e8, hwi, evX, Int.reduceEq, Int.reduceLT, Int.reduceLE, Nat.reduceMul, Nat.reduceMod, evW, evR, Nat.reduceAdd, Nat.reduceLT, Nat.reduceLeDiff, reduceIte, Nat.reduceEqDiff, reduceCtorEq, argEnv, eq_self, if_true, if_false, *])
                exact q_next (i + 1, X2, rvw', rvl') (by rfl) rfl ⟨by omega, hdn.1, by rw [hdn.2]; exact e9, by rw [hdn.2]; exact e10, e11, e12⟩ (by simp only; omega) fun r h => h
            · have hdn := done 0 hnof hpth hpok (by rw [hsib, decide_eq_true (by omega)]; rfl)
              simp only [c33_l0, hE, hi1, ha, hs, hs', h42, hft, hat, rItem, rTy, hp', hp1, hp2, a0, hya, o1, o2, e1, e2, e3, e4, e5, e6, e7, e8, hwi, evX, Int.reduceEq, Int.reduceLT, Int.reduceLE, Nat.reduceMul, Nat.reduceMod, evW, fn_eq, evR, Nat.reduceAdd, Nat.reduceLT, Nat.reduceLeDiff, reduceIte, Nat.reduceEqDiff, reduceCtorEq, argEnv, eq_self, if_true, if_false]
              repeat' ((first | rw [guardK_cases] | rw [condK_bool] | rw [guardD_cases]); split <;> simp only [c33_l0, hE, hi1, ha, hs, hs', h42, hft, hat, rItem, rTy, hp', hp1, hp2, a0, hya, o1, o2, e1, e2, e3, e4, e5, e6, e7, e8, hwi, evX, Int.reduceEq, Int.reduceLT, Int.reduceLE, Nat.reduceMul, Nat.reduceMod, evW, evR, Nat.reduceAdd, Nat.reduceLT, Nat.reduceLeDiff, reduceIte, Nat.reduceEqDiff, reduceCtorEq, argEnv, eq_self, if_true, if_false, *])
              exact q_next (i + 1, X2, rvw', rvl') (by rfl) rfl ⟨by omega, hdn.1, by rw [hdn.2]; exact e9, by rw [hdn.2]; exact e10, e11, e12⟩ (by simp only; omega) fun r h => h
        · have hp' : 0 ≤ t.parent := by omega
          have hway := out_slat (hw.more [bItem x, bI t.parent]) H rfl (fun r hr => by obtain ⟨n, _, rfl⟩ := List.mem_map.1 hr; rfl)
          have hidx := indexFunc_ok (sz := 1) (ag := false) at57 rI (fun a => .int .i64 a) lI 58 [.ptr b2 0 1 0 0, .ptr (H.length + (X.length + 1)) 0 1 0 0] (fun a => decide (typ f a = t.parent)) (H ++ (X ++ [bItem x, bI t.parent])) rvw (way b.types f i) hway (by omega) (fun a ham => by
            have hb := way_bound ham
            obtain ⟨a, rfl⟩ : ∃ a' : Nat, a = (a' : Int) := ⟨a.toNat, by omega⟩
            exact f58 f t.parent a (by omega) b2 _ _ (fun Z => by rw [List.append_assoc]; exact hs2 _) (.mk (by simp)))
          simp only [bItem, bI, rItem] at hidx
          rcases idxOf_cases (fun a => decide (typ f a = t.parent)) (way b.types f i) with ⟨h1, h2⟩ | ⟨m, a, h1, h2, h3⟩
          · rw [h1] at hidx
            have w0 : IntKind.i64.wrap (1 + -1) = 0 := by rfl
            simp only [c33_l0, hE, hi1, ha, hs, hs', h42, hft, hat, rItem, rTy, hp', hidx, w0, evX, Int.reduceEq, Int.reduceLT, Int.reduceLE, Nat.reduceMul, Nat.reduceMod, evW, fn_eq, evR, Nat.reduceAdd, Nat.reduceLT, Nat.reduceLeDiff, reduceIte, Nat.reduceEqDiff, reduceCtorEq, argEnv, eq_self, if_true, if_false]
            repeat' ((first | rw [guardK_cases] | rw [condK_bool] | rw [guardD_cases]); split <;> simp only [c33_l0, hE, hi1, ha, hs, hs', h42, hft, hat, rItem, rTy, hp', hidx, w0, evX, Int.reduceEq, Int.reduceLT, Int.reduceLE, Nat.reduceMul, Nat.reduceMod, evW, evR, Nat.reduceAdd, Nat.reduceLT, Nat.reduceLeDiff, reduceIte, Nat.reduceEqDiff, reduceCtorEq, argEnv, eq_self, if_true, if_false, *])
            refine q_ret ⟨_, _, _, rfl, .inr ⟨forest_bad hx ?_, rfl, by rfl⟩⟩
            have hno : par b.types f i ∉ way b.types f i := fun hm => by
              have hb := way_bound hm
              have := (par_typ (ts := b.types) (f := f) (i := i) hb.1).1
              rw [hxt, hpt] at this
              have h4 := h2 _ hm
              simp [this] at h4
            rw [okAt, hpt, decide_eq_false (by omega), tell_neg hno]; simp
          · have h3 := of_decide_eq_true h3
            have hm0 := way_bound (List.mem_of_getElem? h2)
            obtain ⟨g1, g2, hnof⟩ := par_way ht hlt hf hx (by rw [hpt]; omega) m a h2 (by rw [hpt]; exact h3)
            have hml := (List.getElem?_eq_some_iff.1 h2).1
            have hpth : pth b.types f i = (way b.types f i).take (m + 1) ++ [(i : Int)] := by rw [pth_eq _ _ hlt, g1, g2]
            have hpok : (decide (tpar b.types x.type < 0) || tell (par b.types f i ∈ way b.types f i)) = true := by rw [g1, tell_pos (List.mem_of_getElem? h2)]; simp
            have hwm : IntKind.i64.wrap (1 + (m : Int)) = ((m + 1 : Nat) : Int) := by rw [wrap_i64 (by omega) (by omega)]; omega
            have hm1 : decide (((m + 1 : Nat) : Int) = 0) = false := decide_eq_false (by omega)
            rw [h1] at hidx
            obtain ⟨p, kk, hp1, hp2, hkk⟩ := fin (m + 1) (by omega)
            obtain ⟨sv1, sv2, rvw', rvl', X1, X2, e1, e2, e3, e4, e5, e6, e7, e8, e9, e10, e11, e12⟩ := cut_two hw hl hd hne (i : Int) (by omega) (m + 1) (by omega) [bItem x, bI t.parent]
            simp only [bItem, bI, rItem] at e5
            rcases hkk with ⟨rfl, hkn⟩ | ⟨a, y, rfl, hks, hy, hai⟩
            · have hdn := done (m + 1) hnof hpth hpok (sibN (m + 1) hnof hkn)
              simp only [c33_l0, hE, hi1, ha, hs, hs', h42, hft, hat, rItem, rTy, hp', hidx, hwm, hm1, hp1, hp2, e1, e2, e3, e4, e5, e6, e7, e8, hwi, evX, Int.reduceEq, Int.reduceLT, Int.reduceLE, Nat.reduceMul, Nat.reduceMod, evW, fn_eq, evR, Nat.reduceAdd, Nat.reduceLT, Nat.reduceLeDiff, reduceIte, Nat.reduceEqDiff, reduceCtorEq, argEnv, eq_self, if_true, if_false]
              repeat' ((first | rw [guardK_cases] | rw [condK_bool] | rw [guardD_cases]); split <;> simp only [c33_l0, hE, hi1, ha, hs, hs', h42, hft, hat, rItem, rTy, hp', hidx, hwm, hm1, hp1, hp2, e1, e2, e3, e4, e5, e6, e7, e8, hwi, evX, Int.reduceEq, Int.reduceLT, Int.reduceLE, Nat.reduceMul, Nat.reduceMod, evW, evR, Nat.reduceAdd, Nat.reduceLT, Nat.reduceLeDiff, reduceIte, Nat.reduceEqDiff, reduceCtorEq, argEnv, eq_self, if_true, if_false, *])
              exact q_next (i + 1, X2, rvw', rvl') (by rfl) rfl ⟨by omega, hdn.1, by rw [hdn.2]; exact e9, by rw [hdn.2]; exact e10, e11, e12⟩ (by simp only; omega) fun r h => h
            · have hya := aItem hy
              have a0 : (0 : Int) ≤ (a : Int) := by omega
              have hyt := typ_at hy
              have hyd := dat_at hy
              have hsib := sibS (m + 1) (a : Int) hnof hks
              simp only [ordOk, hyt, hyd, htyo] at hsib
              by_cases o1 : x.type < y.type
              · simp only [c33_l0, hE, hi1, ha, hs, hs', h42, hft, hat, rItem, rTy, hp', hidx, hwm, hm1, hp1, hp2, a0, hya, o1, evX, Int.reduceEq, Int.reduceLT, Int.reduceLE, Nat.reduceMul, Nat.reduceMod, evW, fn_eq, evR, Nat.reduceAdd, Nat.reduceLT, Nat.reduceLeDiff, reduceIte, Nat.reduceEqDiff, reduceCtorEq, argEnv, eq_self, if_true, if_false]
                repeat' ((first | rw [guardK_cases] | rw [condK_bool] | rw [guardD_cases]); split <;> simp only [c33_l0, hE, hi1, ha, hs, hs', h42, hft, hat, rItem, rTy, hp', hidx, hwm, hm1, hp1, hp2, a0, hya, o1, evX, Int.reduceEq, Int.reduceLT, Int.reduceLE, Nat.reduceMul, Nat.reduceMod, evW, evR, Nat.reduceAdd, Nat.reduceLT, Nat.reduceLeDiff, reduceIte, Nat.reduceEqDiff, reduceCtorEq, argEnv, eq_self, if_true, if_false, *])
                exact q_ret ⟨_, _, _, rfl, .inr ⟨forest_bad hx (bad_sib (by rw [hsib, decide_eq_false (show ¬ y.type < x.type by omega), decide_eq_false (show ¬ y.type = x.type by omega)]; rfl)), rfl, by rfl⟩⟩
              by_cases o2 : y.type = x.type
              · have hfy := fits_some (ok_fits (hf a y hai hy))
                obtain ⟨k', t', q1, _, q2, q3, _⟩ := hfy
                obtain rfl : k' = k := by omega
                rw [htk] at q2; cases q2
                have h59 := f59 t hty y.data x.data q3 hmin
                simp only [rTy] at h59
                have o0 : ¬ x.type < x.type := by omega
                cases o3 : inOrd t y.data x.data with
                | false =>
                  simp only [c33_l0, hE, hi1, ha, hs, hs', h42, hft, hat, rItem, rTy, hp', hidx, hwm, hm1, hp1, hp2, a0, hya, o0, o2, h59, o3, evX, Int.reduceEq, Int.reduceLT, Int.reduceLE, Nat.reduceMul, Nat.reduceMod, evW, fn_eq, evR, Nat.reduceAdd, Nat.reduceLT, Nat.reduceLeDiff, reduceIte, Nat.reduceEqDiff, reduceCtorEq, argEnv, eq_self, if_true, if_false]
                  repeat' ((first | rw [guardK_cases] | rw [condK_bool] | rw [guardD_cases]); split <;> simp only [c33_l0, hE, hi1, ha, hs, hs', h42, hft, hat, rItem, rTy, hp', hidx, hwm, hm1, hp1, hp2, a0, hya, o0, o2, h59, o3, evX, Int.reduceEq, Int.reduceLT, Int.reduceLE, Nat.reduceMul, Nat.reduceMod, evW, evR, Nat.reduceAdd, Nat.reduceLT, Nat.reduceLeDiff, reduceIte, Nat.reduceEqDiff, reduceCtorEq, argEnv, eq_self, if_true, if_false, *])
                  exact q_ret ⟨_, _, _, rfl, .inr ⟨forest_bad hx (bad_sib (by rw [hsib, o3, decide_eq_false (show ¬ y.type < x.type by omega)]; simp)), rfl, by rfl⟩⟩
                | true =>
                  rw [o2, o3] at hsib
                  have hdn := done (m + 1) hnof hpth hpok (by rw [hsib]; simp)
                  simp only [c33_l0, hE, hi1, ha, hs, hs', h42, hft, hat, rItem, rTy, hp', hidx, hwm, hm1, hp1, hp2, a0, hya, o0, o2, h59, o3, e1, e2, e3, e4, e5, e6, e7, e8, hwi, evX, Int.reduceEq, Int.reduceLT, Int.reduceLE, Nat.reduceMul, Nat.reduceMod, evW, fn_eq, evR, Nat.reduceAdd, Nat.reduceLT, Nat.reduceLeDiff, reduceIte, Nat.reduceEqDiff, reduceCtorEq, argEnv, eq_self, if_true, if_false]
                  repeat' ((first | rw [guardK_cases] | rw [condK_bool] | rw [guardD_cases]); split <;> simp only [c33_l0, hE, hi1, ha, hs, hs', h42, hft, hat, rItem, rTy, hp', hidx, hwm, hm1, hp1, hp2, a0, hya, o0, o2, h59, o3, e1, e2, e3, e4, e5, e6, e7, e8, hwi, evX, Int.reduceEq, Int.reduceLT, Int.reduceLE, Nat.reduceMul, Nat.reduceMod, evW, evR, Nat.reduceAdd, Nat.reduceLT, Nat.reduceLeDiff, reduceIte, Nat.reduceEqDiff, reduceCtorEq, argEnv, eq_self, if_true, if_false, *])
                  exact q_next (i + 1, X2, rvw', rvl') (by rfl) rfl ⟨by omega, hdn.1, by rw [hdn.2]; exact e9, by rw [hdn.2]; exact e10, e11, e12⟩ (by simp only; omega) fun r h => h
              · have hdn := done (m + 1) hnof hpth hpok (by rw [hsib, decide_eq_true (by omega)]; rfl)
                simp only [c33_l0, hE, hi1, ha, hs, hs', h42, hft, hat, rItem, rTy, hp', hidx, hwm, hm1, hp1, hp2, a0, hya, o1, o2, e1, e2, e3, e4, e5, e6, e7, e8, hwi, evX, Int.reduceEq, Int.reduceLT, Int.reduceLE, Nat.reduceMul, Nat.reduceMod, evW, fn_eq, evR, Nat.reduceAdd, Nat.reduceLT, Nat.reduceLeDiff, reduceIte, Nat.reduceEqDiff, reduceCtorEq, argEnv, eq_self, if_true, if_false]
                repeat' ((first | rw [guardK_cases] | rw [condK_bool] | rw [guardD_cases]); split <;> simp only [c33_l0, hE, hi1, ha, hs, hs', h42, hft, hat, rItem, rTy, hp', hidx, hwm, hm1, hp1, hp2, a0, hya, o1, o2, e1, e2, e3, e4, e5, e6, e7, e8, hwi, evX, Int.reduceEq, Int.reduceLT, Int.reduceLE, Nat.reduceMul, Nat.reduceMod, evW, evR, Nat.reduceAdd, Nat.reduceLT, Nat.reduceLeDiff, reduceIte, Nat.reduceEqDiff, reduceCtorEq, argEnv, eq_self, if_true, if_false, *])
                exact q_next (i + 1, X2, rvw', rvl') (by rfl) rfl ⟨by omega, hdn.1, by rw [hdn.2]; exact e9, by rw [hdn.2]; exact e10, e11, e12⟩ (by simp only; omega) fun r h => h
    · have hi1 : ¬ (i : Int) < (f.length : Int) := by omega
      simp only [c33_l0, hE, hi1, evX, Int.reduceEq, Int.reduceLT, Int.reduceLE, Nat.reduceMul, Nat.reduceMod, evW, fn_eq, evR, Nat.reduceAdd, Nat.reduceLT, Nat.reduceLeDiff, reduceIte, Nat.reduceEqDiff, reduceCtorEq, argEnv, eq_self, if_true, if_false]
      repeat' ((first | rw [guardK_cases] | rw [condK_bool] | rw [guardD_cases]); split <;> simp only [c33_l0, hE, hi1, evX, Int.reduceEq, Int.reduceLT, Int.reduceLE, Nat.reduceMul, Nat.reduceMod, evW, evR, Nat.reduceAdd, Nat.reduceLT, Nat.reduceLeDiff, reduceIte, Nat.reduceEqDiff, reduceCtorEq, argEnv, eq_self, if_true, if_false, *])
      refine q_exit ⟨_, _, _, rfl, .inl ⟨tell_pos fun j y hy => hf j y ?_ hy, rfl⟩⟩
      have := (List.getElem?_eq_some_iff.1 hy).1; omega
end Go.Proofs.Ytcbmakanokmdjaa.Code
