/- plain: which types stand in a hierarchy, as the program asks. -/
import Derived.Test.YtcbmakanokmdjaaRd
import Derived.Test.YtcbmakanokmdjaaEvY
set_option linter.unusedSimpArgs false
set_option linter.unusedVariables false
namespace Go.Proofs.Ytcbmakanokmdjaa.Code
open Go.Proofs.Ytcbmakanokmdjaa.Ev

def rI (n : Int) : List AV := [.int .i64 n]
def eIs (l : List Int) : AV := .lst (l.map rI)
theorem lI (n : Int) : Loads false 1 (rI n) (.int .i64 n) := ⟨rfl, rfl, rfl⟩
theorem sIs (H : Heap) (l : List Int) : SlAt H 1 (eIs l) (l.map rI) := sLst rI (fun _ => rfl) H l
theorem f47 (n : Int) (H : Heap) (a : AV) (l : List Int) (ha : SlAt H 1 a (l.map rI)) (hl : l.length < 9223372036854775807) : cal (evC cprog) false 47 [a, .int .i64 n] H = some (.int .i64 (idxOf (fun x => decide (n = x)) l), H) := by
  refine indexFunc_at (test := tEq) (ag := false) (sz := 1) at47 rI (fun x => .int .i64 x) lI _ _ H a l ha hl fun x hx T h1 h2 => ?_
  simp only [tEq, h1, h2, evR, Nat.reduceAdd, Nat.reduceLT, Nat.reduceLeDiff, reduceIte, Nat.reduceEqDiff, reduceCtorEq, argEnv, eq_self, if_true, if_false]
theorem f79 (g f : Ty) (b : Nat) (H : Heap) (hb : H[b]? = some ⟨0, true, 61, 8, [rTy f]⟩) : cal (evC cprog) false 79 [.agg (rTy g), .ptr b 0 8 0 0] H = some (.bool (decide (g.name = f.name)), H) := by
  rw [cal_of at79]
  have hb' : ∀ X, (H ++ X)[b]? = some ⟨0, true, 61, 8, [rTy f]⟩ := fun X => by
    rw [List.getElem?_append_left (List.getElem?_eq_some_iff.1 hb).1]; exact hb
  simp only [rTy] at hb'
  simp only [c79, rTy, hb', evX, Int.reduceEq, Int.reduceLT, Int.reduceLE, Nat.reduceMul, Nat.reduceMod, evW, fn_eq, evR, Nat.reduceAdd, Nat.reduceLT, Nat.reduceLeDiff, reduceIte, Nat.reduceEqDiff, reduceCtorEq, argEnv, eq_self, if_true, if_false]
  repeat' ((first | rw [guardK_cases] | rw [condK_bool] | rw [guardD_cases]); split <;> simp only [c79, rTy, hb', evX, Int.reduceEq, Int.reduceLT, Int.reduceLE, Nat.reduceMul, Nat.reduceMod, evW, evR, Nat.reduceAdd, Nat.reduceLT, Nat.reduceLeDiff, reduceIte, Nat.reduceEqDiff, reduceCtorEq, argEnv, eq_self, if_true, if_false, *])
theorem f78 (l : List Ty) (hl : l.length < 9223372036854775807) (f : Ty) (b : Nat) (H : Heap) (hb : H[b]? = some ⟨0, true, 61, 8, [rTy f]⟩) : cal (evC cprog) false 78 [eTys l, .fn 79 [.ptr b 0 8 0 0]] H = some (.bool (l.any fun g => decide (g.name = f.name)), H) :=
  containsFunc_ok (g := 87) at78 (indexFunc_ok (sz := 8) (ag := true) at87 _ _ lTy 79 [_] _ H _ l (sTys H l) hl fun g _ => f79 g f b H hb)
theorem PtrLst.at {α : Type} (row : α → List AV) {sz : Nat} (hr : ∀ x, (row x).length = sz) (l : List α) {i : Nat} {x : α} (hx : l[i]? = some x) :
    ∃ p, iaddrK sz (some (.lst (l.map row))) (some (.int .i64 (i : Int))) = some p ∧ ∀ H, PtrAt H p (row x) := by
  obtain ⟨_, p, h1, h2⟩ := (sLst row hr [] l).get i (row x) (by rw [List.getElem?_map, hx]; rfl)
  refine ⟨p, h1, fun H => ?_⟩
  obtain ⟨_, p', h3, h4⟩ := (sLst row hr H l).get i (row x) (by rw [List.getElem?_map, hx]; rfl)
  rw [h1] at h3; cases h3; exact h4
theorem wayTo_len (ts : List Ty) (i : Nat) : (wayTo ts i).length ≤ i := by
  cases i with
  | zero => simp [wayTo]
  | succ i => exact anc_len ts i i (Nat.le_refl _)
theorem tys_bad {ts : List Ty} {i : Nat} {t : Ty} (ht : ts[i]? = some t) (h : tyAt ts i t = false) : tysOk ts = false := tell_neg fun h' => by rw [h' i t ht] at h; cases h
theorem ty_root {ts : List Ty} {t : Ty} (h : rootOk t = false) : tyAt ts 0 t = false := by simp [tyAt, h]
theorem l55 (ts : List Ty) (hl : ts.length ≤ 8) (hok : ∀ t ∈ ts, t.Ok) (H : Heap) (st : St)
    (hE : keepEnv st.1 [0, 3, 15, 16, 17] = [(0, eTys ts), (3, .nils), (15, eTys ts), (16, .int .i64 (ts.length : Int)), (17, .int .i64 0)]) (hH : st.2 = H) (z : Option (CX × St)) (hz : itLim (evCode (evC cprog) itLim c55_l0) st = z) :
    ∃ c T X, z = some (c, T, H ++ X) ∧ ((tysOk ts = true ∧ c = .exit 0) ∨ (tysOk ts = false ∧ c = .ret ∧ get T 2 = some (.bool false))) := by
  have L := loop_rule (σ := Nat × Heap × AV) (m := [0, 3, 15, 16, 17]) (env := fun i => [(0, eTys ts), (3, i.2.2), (15, eTys ts), (16, .int .i64 (ts.length : Int)), (17, .int .i64 (i.1 : Int))]) (hp := fun i => H ++ i.2.1)
    (P := fun i r => ∃ c T X, r = (c, T, H ++ X) ∧ ((tysOk ts = true ∧ c = .exit 0) ∨ (tysOk ts = false ∧ c = .ret ∧ get T 2 = some (.bool false))))
    (mu := fun i => ts.length - i.1) (I := fun i => i.1 ≤ ts.length ∧ (∀ j t, j < i.1 → ts[j]? = some t → tyAt ts j t = true) ∧ Out H.length 1 3 i.2.1 i.2.2 ((wayTo ts i.1).map rI)) (evCode (evC cprog) itLim c55_l0) ?_ (0, [], .nils) st ⟨by simp, fun j t h => by simp at h, .nils ..⟩ hE (by simpa using hH) z hz
  · obtain ⟨r, rfl, c, T, X, rfl, h⟩ := L
    exact ⟨c, T, X, rfl, h⟩
  · intro ⟨i, X, rv⟩ ⟨hi, hpre, hO⟩ E hE
    simp only at hi hpre hO hE ⊢
    by_cases hlt : i < ts.length
    · obtain ⟨t, ht⟩ : ∃ t, ts[i]? = some t := ⟨_, List.getElem?_eq_getElem hlt⟩
      have hi1 : (i : Int) < (ts.length : Int) := by omega
      have htk := hok t (List.mem_of_getElem? ht)
      obtain ⟨p, hp, hat⟩ := PtrLst.at rTy (sz := 8) (fun _ => rfl) ts ht
      change iaddrK 8 (some (eTys ts)) _ = _ at hp
      have hag := fun H => (hat H).agg (n := 8) rfl
      have hdup := f78 (ts.take i) (by rw [List.length_take]; omega) t (H.length + X.length) (H ++ (X ++ [⟨0, true, 61, 8, [rTy t]⟩])) (by simp)
      have hs := fun H => slc_take rTy (sz := 8) (fun _ => rfl) H ts (i := i) (by omega)
      change ∀ H, evSlc H 8 (eTys ts) none (some i) none = some (eTys (ts.take i)) at hs
      have h77 := f77 t htk
      have hway := out_slat (hO.more [⟨0, true, 61, 8, [rTy t]⟩]) H rfl (fun r hr => by obtain ⟨n, _, rfl⟩ := List.mem_map.1 hr; rfl)
      have hidx := f47 t.parent (H ++ (X ++ [⟨0, true, 61, 8, [rTy t]⟩])) rv (wayTo ts i) hway (by have := wayTo_len ts i; omega)
      simp only [rTy] at hag hdup h77 hidx
      cases hA : tyOk t with
      | false =>
        simp only [c55_l0, hE, hi1, hp, hag, h77, hA, evX, Int.reduceEq, Int.reduceLT, Int.reduceLE, Nat.reduceMul, Nat.reduceMod, evW, fn_eq, evR, Nat.reduceAdd, Nat.reduceLT, Nat.reduceLeDiff, reduceIte, Nat.reduceEqDiff, reduceCtorEq, argEnv, eq_self, if_true, if_false]
        repeat' ((first | rw [guardK_cases] | rw [condK_bool] | rw [guardD_cases]); split <;> simp only [c55_l0, hE, hi1, hp, hag, h77, hA, evX, Int.reduceEq, Int.reduceLT, Int.reduceLE, Nat.reduceMul, Nat.reduceMod, evW, evR, Nat.reduceAdd, Nat.reduceLT, Nat.reduceLeDiff, reduceIte, Nat.reduceEqDiff, reduceCtorEq, argEnv, eq_self, if_true, if_false, *])
        refine q_ret ⟨_, _, _, rfl, .inr ⟨tys_bad ht (by simp [tyAt, hA]), rfl, by rfl⟩⟩
      | true =>
        cases hB : (ts.take i).any fun u => decide (u.name = t.name) with
        | true =>
          simp only [c55_l0, hE, hi1, hp, hag, h77, hA, hs, hdup, hB, evX, Int.reduceEq, Int.reduceLT, Int.reduceLE, Nat.reduceMul, Nat.reduceMod, evW, fn_eq, evR, Nat.reduceAdd, Nat.reduceLT, Nat.reduceLeDiff, reduceIte, Nat.reduceEqDiff, reduceCtorEq, argEnv, eq_self, if_true, if_false]
          repeat' ((first | rw [guardK_cases] | rw [condK_bool] | rw [guardD_cases]); split <;> simp only [c55_l0, hE, hi1, hp, hag, h77, hA, hs, hdup, hB, evX, Int.reduceEq, Int.reduceLT, Int.reduceLE, Nat.reduceMul, Nat.reduceMod, evW, evR, Nat.reduceAdd, Nat.reduceLT, Nat.reduceLeDiff, reduceIte, Nat.reduceEqDiff, reduceCtorEq, argEnv, eq_self, if_true, if_false, *])
          refine q_ret ⟨_, _, _, rfl, .inr ⟨tys_bad ht (by simp [tyAt, hB]), rfl, by rfl⟩⟩
        | false =>
          have fin : ∀ (k : Nat) (a : Int), idxOf (fun x => decide (t.parent = x)) (wayTo ts i) = a → IntKind.i64.wrap (a + 1) = (k : Int) → k ≤ (wayTo ts i).length → (wayTo ts i).take k ++ [(i : Int)] = anc ts i →
              ∃ sv rv' X', sv.isTup = false ∧ (∀ Y, evSlc Y 1 rv none (some k) none = some sv) ∧ appK 3 1 8 false (H ++ (X ++ [⟨0, true, 61, 8, [rTy t]⟩, ⟨0, true, 3, 1, [[.int .i64 (i : Int)]]⟩])) (some sv) (some (.ref (H.length + (X.length + 1)) 0 1 0 1)) = some (rv', H ++ X') ∧ rv'.isTup = false ∧ Out H.length 1 3 X' rv' ((anc ts i).map rI) := by
            intro k a h1 h2 h3 h4
            obtain ⟨sv, g1, g2, g3⟩ := hO.cut H rfl (k := k) (by rw [List.length_map]; exact h3)
            have hsr : srcRows (H ++ (X ++ [⟨0, true, 61, 8, [rTy t]⟩, ⟨0, true, 3, 1, [[.int .i64 (i : Int)]]⟩])) (.ref (H.length + (X.length + 1)) 0 1 0 1) = some [[.int .i64 (i : Int)]] := by
              simp [srcRows, rowsOf, curBlk, at_app]
            have hb : (k + [[AV.int .i64 (i : Int)]].length) * 8 ≤ reach ∧ k + [[AV.int .i64 (i : Int)]].length ≤ reach := by
              have := wayTo_len ts i
              simp only [List.length_singleton, reach]; omega
            obtain ⟨rv', X', k1, k2, k3⟩ := g3 [⟨0, true, 61, 8, [rTy t]⟩, ⟨0, true, 3, 1, [[.int .i64 (i : Int)]]⟩] 8 _ _ (by simp) hsr (by rfl) hb.1 hb.2
            refine ⟨sv, rv', X', g1, g2, k1, k2, ?_⟩
            rw [← h4, List.map_append, List.map_take]
            exact k3
          by_cases h0 : i = 0
          · subst h0
            have e0 : decide (((0 : Nat) : Int) = 0) = true := rfl
            have e00 : decide ((0 : Int) < ((0 : Nat) : Int)) = false := rfl
            have e1 : decide ((5 : Int) < ((1 : Nat) : Int)) = false := rfl
            have w1 : IntKind.i64.wrap (((0 : Nat) : Int) + 1) = ((1 : Nat) : Int) := rfl
            simp only [List.take_zero, List.any_nil] at hdup hs
            rcases key_cases t with hk | hk | hk | ⟨k, f, hk, hf⟩
            · have hr0 : rootOk t = false := by simp [rootOk, hk]
              have k2 : t.key < 0 := by omega
              simp only [c55_l0, hE, hi1, hp, hag, h77, hA, hs, hdup, e0, e00, e1, w1, hidx, k2, evX, Int.reduceEq, Int.reduceLT, Int.reduceLE, Nat.reduceMul, Nat.reduceMod, evW, fn_eq, evR, Nat.reduceAdd, Nat.reduceLT, Nat.reduceLeDiff, reduceIte, Nat.reduceEqDiff, reduceCtorEq, argEnv, eq_self, if_true, if_false]
              repeat' ((first | rw [guardK_cases] | rw [condK_bool] | rw [guardD_cases]); split <;> simp only [c55_l0, hE, hi1, hp, hag, h77, hA, hs, hdup, e0, e00, e1, w1, hidx, k2, evX, Int.reduceEq, Int.reduceLT, Int.reduceLE, Nat.reduceMul, Nat.reduceMod, evW, evR, Nat.reduceAdd, Nat.reduceLT, Nat.reduceLeDiff, reduceIte, Nat.reduceEqDiff, reduceCtorEq, argEnv, eq_self, if_true, if_false, *])
              all_goals exact q_ret ⟨_, _, _, rfl, .inr ⟨tys_bad ht (ty_root hr0), rfl, by rfl⟩⟩
            · have := key_neg hk; simp [tyOk, this] at hA
            · have := key_far hk; simp [tyOk, this] at hA
            · have hk2 : ¬ (k : Int) < 0 := by omega
              obtain ⟨q, hq, hqt⟩ := PtrLst.at rFd (sz := 3) (fun _ => rfl) t.fields hf
              change iaddrK 3 (some (eFds t.fields)) _ = _ at hq
              have hl1 := fun o s H => (hqt H).fld o s
              have hl2 := fun o => (hqt []).faddr o
              simp only [rFd] at hl1
              simp only [rTy] at fin
              simp only [hk] at hag hdup h77 hidx fin
              cases hr : rootOk t with
              | false =>
                have hr' : t.parent = -1 → t.unique = true → ¬ f.bytes ≤ 24 := by
                  intro h1 h2 h3
                  simp [rootOk, h1, h2, hk, hf, h3] at hr
                simp only [c55_l0, hE, hi1, hp, hag, h77, hA, hs, hdup, e0, e00, e1, w1, hidx, hk2, hq, hl1, hl2, evX, Int.reduceEq, Int.reduceLT, Int.reduceLE, Nat.reduceMul, Nat.reduceMod, evW, fn_eq, evR, Nat.reduceAdd, Nat.reduceLT, Nat.reduceLeDiff, reduceIte, Nat.reduceEqDiff, reduceCtorEq, argEnv, eq_self, if_true, if_false]
                repeat' ((first | rw [guardK_cases] | rw [condK_bool] | rw [guardD_cases]); split <;> simp only [c55_l0, hE, hi1, hp, hag, h77, hA, hs, hdup, e0, e00, e1, w1, hidx, hk2, hq, hl1, hl2, evX, Int.reduceEq, Int.reduceLT, Int.reduceLE, Nat.reduceMul, Nat.reduceMod, evW, evR, Nat.reduceAdd, Nat.reduceLT, Nat.reduceLeDiff, reduceIte, Nat.reduceEqDiff, reduceCtorEq, argEnv, eq_self, if_true, if_false, *])
                all_goals first | exact q_ret ⟨_, _, _, rfl, .inr ⟨tys_bad ht (ty_root hr), rfl, by rfl⟩⟩ | (exfalso; simp_all; done) | (exfalso; simp_all; omega)
              | true =>
                simp only [rootOk, hk, hf, Bool.and_eq_true, decide_eq_true_eq, Int.toNat_natCast] at hr
                obtain ⟨⟨⟨hr1, _⟩, hr2⟩, hr3⟩ := hr
                have hr4 : ¬ 24 < f.bytes := by omega
                have hanc : anc ts 0 = [((0 : Nat) : Int)] := anc_root fun t' ht' => by rw [ht] at ht'; cases ht'; omega
                obtain ⟨sv, rv', X', g1, g2, g3, g4, g5⟩ := fin 0 (-1) (by rfl) (by rfl) (by simp) (by simp [hanc])
                have hgood : tyAt ts 0 t = true := by simp [tyAt, hA, rootOk, hr1, hr2, hr3, hk, hf, hanc]
                have hlen := out_len g5
                simp only [hanc, List.map_cons, List.map_nil, List.length_singleton] at hlen
                have hidx0 : idxOf (fun x => decide (t.parent = x)) (wayTo ts 0) = -1 := rfl
                have w0 : IntKind.i64.wrap (-1 + 1) = 0 := by rfl
                simp only [hr1, hr2] at hag hdup h77 hidx hidx0 g3
                simp only [c55_l0, hE, hi1, hp, hag, h77, hA, hs, hdup, e0, e00, e1, w1, hidx, hidx0, w0, hk2, hq, hl1, hl2, hr1, hr2, hr4, g1, g2, g3, g4, hlen, evX, Int.reduceEq, Int.reduceLT, Int.reduceLE, Nat.reduceMul, Nat.reduceMod, evW, fn_eq, evR, Nat.reduceAdd, Nat.reduceLT, Nat.reduceLeDiff, reduceIte, Nat.reduceEqDiff, reduceCtorEq, argEnv, eq_self, if_true, if_false]
                repeat' ((first | rw [guardK_cases] | rw [condK_bool] | rw [guardD_cases]); split <;> simp only [c55_l0, hE, hi1, hp, hag, h77, hA, hs, hdup, e0, e00, e1, w1, hidx, hidx0, w0, hk2, hq, hl1, hl2, hr1, hr2, hr4, g1, g2, g3, g4, hlen, evX, Int.reduceEq, Int.reduceLT, Int.reduceLE, Nat.reduceMul, Nat.reduceMod, evW, evR, Nat.reduceAdd, Nat.reduceLT, Nat.reduceLeDiff, reduceIte, Nat.reduceEqDiff, reduceCtorEq, argEnv, eq_self, if_true, if_false, *])
                all_goals refine q_next (1, X', rv') (by rfl) rfl ⟨by omega, fun j t' hj ht' => ?_, g5⟩ (by simp only; omega) fun r h => h
                all_goals
                  obtain rfl : j = 0 := by omega
                  rw [ht] at ht'; cases ht'; exact hgood
          · have n0 : decide ((i : Int) = 0) = false := decide_eq_false (by omega)
            have n1 : decide ((0 : Int) < (i : Int)) = true := decide_eq_true (by omega)
            by_cases hm : t.parent ∈ wayTo ts i
            · obtain ⟨j, hj⟩ : ∃ j, i = j + 1 := ⟨i - 1, by omega⟩
              have hw0 : wayTo ts i = anc ts j := by rw [hj]; rfl
              have hm' := hm
              rw [hw0] at hm'
              have hb := anc_bound hm'
              have hpar : t.parent = ((t.parent.toNat : Nat) : Int) := by omega
              obtain ⟨m, h1, h2, h3⟩ := idx_anc ts j j (Nat.le_refl _) t.parent.toNat (by rw [← hpar]; exact hm')
              rw [← hpar, ← hw0] at h1
              rw [← hw0] at h2 h3
              have hml := wayTo_len ts i
              have hanc : (wayTo ts i).take (m + 1) ++ [(i : Int)] = anc ts i := by rw [h3, anc_up ht hpar (by omega)]
              have hwm : IntKind.i64.wrap ((m : Int) + 1) = ((m + 1 : Nat) : Int) := by rw [wrap_i64 (by omega) (by omega)]; rfl
              obtain ⟨sv, rv', X', g1, g2, g3, g4, g5⟩ := fin (m + 1) m h1 hwm (by omega) hanc
              have hlen := out_len g5
              rw [List.length_map] at hlen
              simp only [rTy] at g3
              have hm0 : ¬ (m : Int) < 0 := by omega
              have hwi := wrapS hlt (by omega)
              cases h5 : decide (((anc ts i).length : Int) ≤ 5) with
              | true =>
                have n5 : decide ((5 : Int) < ((anc ts i).length : Int)) = false := by simp at h5 ⊢; exact h5
                have hgood : tyAt ts i t = true := by simp [tyAt, hA, hB, h0, hm, h5]
                simp only [c55_l0, hE, hi1, hp, hag, h77, hA, hs, hdup, hB, hidx, h1, hwm, hwi, n0, n1, n5, hm0, g1, g2, g3, g4, hlen, evX, Int.reduceEq, Int.reduceLT, Int.reduceLE, Nat.reduceMul, Nat.reduceMod, evW, fn_eq, evR, Nat.reduceAdd, Nat.reduceLT, Nat.reduceLeDiff, reduceIte, Nat.reduceEqDiff, reduceCtorEq, argEnv, eq_self, if_true, if_false]
                repeat' ((first | rw [guardK_cases] | rw [condK_bool] | rw [guardD_cases]); split <;> simp only [c55_l0, hE, hi1, hp, hag, h77, hA, hs, hdup, hB, hidx, h1, hwm, hwi, n0, n1, n5, hm0, g1, g2, g3, g4, hlen, evX, Int.reduceEq, Int.reduceLT, Int.reduceLE, Nat.reduceMul, Nat.reduceMod, evW, evR, Nat.reduceAdd, Nat.reduceLT, Nat.reduceLeDiff, reduceIte, Nat.reduceEqDiff, reduceCtorEq, argEnv, eq_self, if_true, if_false, *])
                all_goals refine q_next (i + 1, X', rv') (by rfl) rfl ⟨by omega, fun j t' hj ht' => ?_, g5⟩ (by simp only; omega) fun r h => h
                all_goals
                  by_cases hji : j < i
                  · exact hpre j t' hji ht'
                  · obtain rfl : j = i := by omega
                    rw [ht] at ht'; cases ht'; exact hgood
              | false =>
                have n5 : decide ((5 : Int) < ((anc ts i).length : Int)) = true := by simp at h5 ⊢; omega
                have hbad : tyAt ts i t = false := by simp [tyAt, h5]
                simp only [c55_l0, hE, hi1, hp, hag, h77, hA, hs, hdup, hB, hidx, h1, hwm, hwi, n0, n1, n5, hm0, g1, g2, g3, g4, hlen, evX, Int.reduceEq, Int.reduceLT, Int.reduceLE, Nat.reduceMul, Nat.reduceMod, evW, fn_eq, evR, Nat.reduceAdd, Nat.reduceLT, Nat.reduceLeDiff, reduceIte, Nat.reduceEqDiff, reduceCtorEq, argEnv, eq_self, if_true, if_false]
                repeat' ((first | rw [guardK_cases] | rw [condK_bool] | rw [guardD_cases]); split <;> simp only [c55_l0, hE, hi1, hp, hag, h77, hA, hs, hdup, hB, hidx, h1, hwm, hwi, n0, n1, n5, hm0, g1, g2, g3, g4, hlen, evX, Int.reduceEq, Int.reduceLT, Int.reduceLE, Nat.reduceMul, Nat.reduceMod, evW, evR, Nat.reduceAdd, Nat.reduceLT, Nat.reduceLeDiff, reduceIte, Nat.reduceEqDiff, reduceCtorEq, argEnv, eq_self, if_true, if_false, *])
                all_goals exact q_ret ⟨_, _, _, rfl, .inr ⟨tys_bad ht hbad, rfl, by rfl⟩⟩
            · have h1 := idx_none hm
              have hbad : tyAt ts i t = false := by simp [tyAt, h0, hm]
              have m1 : decide ((-1 : Int) < 0) = true := rfl
              simp only [c55_l0, hE, hi1, hp, hag, h77, hA, hs, hdup, hB, hidx, h1, n0, n1, m1, evX, Int.reduceEq, Int.reduceLT, Int.reduceLE, Nat.reduceMul, Nat.reduceMod, evW, fn_eq, evR, Nat.reduceAdd, Nat.reduceLT, Nat.reduceLeDiff, reduceIte, Nat.reduceEqDiff, reduceCtorEq, argEnv, eq_self, if_true, if_false]
              repeat' ((first | rw [guardK_cases] | rw [condK_bool] | rw [guardD_cases]); split <;> simp only [c55_l0, hE, hi1, hp, hag, h77, hA, hs, hdup, hB, hidx, h1, n0, n1, m1, evX, Int.reduceEq, Int.reduceLT, Int.reduceLE, Nat.reduceMul, Nat.reduceMod, evW, evR, Nat.reduceAdd, Nat.reduceLT, Nat.reduceLeDiff, reduceIte, Nat.reduceEqDiff, reduceCtorEq, argEnv, eq_self, if_true, if_false, *])
              all_goals exact q_ret ⟨_, _, _, rfl, .inr ⟨tys_bad ht hbad, rfl, by rfl⟩⟩
    · have hi1 : ¬ (i : Int) < (ts.length : Int) := by omega
      simp only [c55_l0, hE, hi1, evX, Int.reduceEq, Int.reduceLT, Int.reduceLE, Nat.reduceMul, Nat.reduceMod, evW, fn_eq, evR, Nat.reduceAdd, Nat.reduceLT, Nat.reduceLeDiff, reduceIte, Nat.reduceEqDiff, reduceCtorEq, argEnv, eq_self, if_true, if_false]
      repeat' ((first | rw [guardK_cases] | rw [condK_bool] | rw [guardD_cases]); split <;> simp only [c55_l0, hE, hi1, evX, Int.reduceEq, Int.reduceLT, Int.reduceLE, Nat.reduceMul, Nat.reduceMod, evW, evR, Nat.reduceAdd, Nat.reduceLT, Nat.reduceLeDiff, reduceIte, Nat.reduceEqDiff, reduceCtorEq, argEnv, eq_self, if_true, if_false, *])
      refine q_exit ⟨_, _, _, rfl, .inl ⟨tell_pos fun j t hj => hpre j t ?_ hj, rfl⟩⟩
      have := (List.getElem?_eq_some_iff.1 hj).1; omega
noncomputable def areTys (ts : List Ty) : Bool := decide ((1 : Int) ≤ ts.length) && decide ((ts.length : Int) ≤ 8) && tysOk ts
theorem f55 (ts : List Ty) (hok : ∀ t ∈ ts, t.Ok) (H : Heap) : cal (evC cprog) false 55 [eTys ts] H = some (.bool (areTys ts), H) := by
  rw [cal_of at55]
  have hlen := (sTys [] ts).len
  simp only [List.length_map] at hlen
  by_cases h1 : (ts.length : Int) < 1
  · simp only [c55, hlen, h1, evX, Int.reduceEq, Int.reduceLT, Int.reduceLE, Nat.reduceMul, Nat.reduceMod, evW, fn_eq, evR, Nat.reduceAdd, Nat.reduceLT, Nat.reduceLeDiff, reduceIte, Nat.reduceEqDiff, reduceCtorEq, argEnv, eq_self, if_true, if_false]
    repeat' ((first | rw [guardK_cases] | rw [condK_bool] | rw [guardD_cases]); split <;> simp only [c55, hlen, h1, evX, Int.reduceEq, Int.reduceLT, Int.reduceLE, Nat.reduceMul, Nat.reduceMod, evW, evR, Nat.reduceAdd, Nat.reduceLT, Nat.reduceLeDiff, reduceIte, Nat.reduceEqDiff, reduceCtorEq, argEnv, eq_self, if_true, if_false, *])
    have : decide ((1 : Int) ≤ ts.length) = false := decide_eq_false (by omega)
    simp only [areTys, this, Bool.false_and]
  by_cases h8 : (8 : Int) < (ts.length : Int)
  · simp only [c55, hlen, h1, h8, evX, Int.reduceEq, Int.reduceLT, Int.reduceLE, Nat.reduceMul, Nat.reduceMod, evW, fn_eq, evR, Nat.reduceAdd, Nat.reduceLT, Nat.reduceLeDiff, reduceIte, Nat.reduceEqDiff, reduceCtorEq, argEnv, eq_self, if_true, if_false]
    repeat' ((first | rw [guardK_cases] | rw [condK_bool] | rw [guardD_cases]); split <;> simp only [c55, hlen, h1, h8, evX, Int.reduceEq, Int.reduceLT, Int.reduceLE, Nat.reduceMul, Nat.reduceMod, evW, evR, Nat.reduceAdd, Nat.reduceLT, Nat.reduceLeDiff, reduceIte, Nat.reduceEqDiff, reduceCtorEq, argEnv, eq_self, if_true, if_false, *])
    have : decide ((ts.length : Int) ≤ 8) = false := decide_eq_false (by omega)
    simp only [areTys, this, Bool.false_and, Bool.and_false]
  simp only [c55, hlen, h1, h8, evX, Int.reduceEq, Int.reduceLT, Int.reduceLE, Nat.reduceMul, Nat.reduceMod, evW, fn_eq, evR, Nat.reduceAdd, Nat.reduceLT, Nat.reduceLeDiff, reduceIte, Nat.reduceEqDiff, reduceCtorEq, argEnv, eq_self, if_true, if_false]
  repeat' ((first | rw [guardK_cases] | rw [condK_bool] | rw [guardD_cases]); split <;> simp only [c55, hlen, h1, h8, evX, Int.reduceEq, Int.reduceLT, Int.reduceLE, Nat.reduceMul, Nat.reduceMod, evW, evR, Nat.reduceAdd, Nat.reduceLT, Nat.reduceLeDiff, reduceIte, Nat.reduceEqDiff, reduceCtorEq, argEnv, eq_self, if_true, if_false, *])
  have ha : areTys ts = tysOk ts := by simp [areTys]; omega
  rw [ha]
  generalize hz : itLim _ _ = z
  obtain ⟨c, T, X, rfl, h⟩ := l55 ts (by omega) hok H _ (by rfl) (by rfl) z hz
  rcases h with ⟨h, rfl⟩ | ⟨h, rfl, hT⟩
  · rw [h]
    simp only [h, evX, Int.reduceEq, Int.reduceLT, Int.reduceLE, Nat.reduceMul, Nat.reduceMod, evW, fn_eq, evR, Nat.reduceAdd, Nat.reduceLT, Nat.reduceLeDiff, reduceIte, Nat.reduceEqDiff, reduceCtorEq, argEnv, eq_self, if_true, if_false]
    repeat' ((first | rw [guardK_cases] | rw [condK_bool] | rw [guardD_cases]); split <;> simp only [h, evX, Int.reduceEq, Int.reduceLT, Int.reduceLE, Nat.reduceMul, Nat.reduceMod, evW, evR, Nat.reduceAdd, Nat.reduceLT, Nat.reduceLeDiff, reduceIte, Nat.reduceEqDiff, reduceCtorEq, argEnv, eq_self, if_true, if_false, *])
  · rw [h]
    simp only [hT, evX, Int.reduceEq, Int.reduceLT, Int.reduceLE, Nat.reduceMul, Nat.reduceMod, evW, fn_eq, evR, Nat.reduceAdd, Nat.reduceLT, Nat.reduceLeDiff, reduceIte, Nat.reduceEqDiff, reduceCtorEq, argEnv, eq_self, if_true, if_false]
    repeat' ((first | rw [guardK_cases] | rw [condK_bool] | rw [guardD_cases]); split <;> simp only [hT, evX, Int.reduceEq, Int.reduceLT, Int.reduceLE, Nat.reduceMul, Nat.reduceMod, evW, evR, Nat.reduceAdd, Nat.reduceLT, Nat.reduceLeDiff, reduceIte, Nat.reduceEqDiff, reduceCtorEq, argEnv, eq_self, if_true, if_false, *])
end Go.Proofs.Ytcbmakanokmdjaa.Code
