/- plain: ends of subtrees, of the program and of the document. -/
import Derived.Test.YtcbmakanokmdjaaSb
set_option linter.unusedSimpArgs false
set_option linter.unusedVariables false
namespace Go.Proofs.Ytcbmakanokmdjaa.Code
open Go.Proofs.Ytcbmakanokmdjaa.Ev

theorem anc_len8 {b : Base} {f : List Item} (h : Right b f) {k : Nat} (hk : k < b.types.length) : (anc b.types k).length ≤ 5 ∧ b.types.length ≤ 8 := by
  obtain ⟨t, ht⟩ : ∃ t, b.types[k]? = some t := ⟨_, List.getElem?_eq_getElem hk⟩
  have h1 := tell_true.1 h.tys k t ht
  simp only [tyAt, Bool.and_eq_true, decide_eq_true_eq] at h1
  have h2 := h.valid
  simp only [validB, areTys, Bool.and_eq_true, decide_eq_true_eq] at h2
  omega
theorem f40 (b : Base) (f : List Item) (hr : Right b f) (i : Nat) (hi : i < f.length) (H : Heap) : cal (evC cprog) false 40 [eBase b, eItems f, .int .i64 (i : Int)] H = some (.int .i64 (endOf b.types f i : Int), H) := by
  rw [cal_of at40]
  obtain ⟨x, k, t, hx, hk, hkl, ht, _⟩ := hr.item hi
  have ha := aItem hx
  have h8 := anc_len8 hr hkl
  have h67 := f67 b hr.tys k hkl (by omega)
  rw [← hk] at h67
  simp only [eBase] at h67
  have hl := hr.len
  have hlen := (sItems [] f).len
  simp only [List.length_map] at hlen
  have hw := wrapS (i := i) (n := 300) (by omega) (by omega)
  have hd : (anc b.types k).length = (pth b.types f i).length := by rw [pth_len hr i i (Nat.le_refl _) hi, typ_at hx, hk, Int.toNat_natCast]
  rw [hd] at h67
  simp only [c40, eBase, ha, rItem, h67, hw, evX, Int.reduceEq, Int.reduceLT, Int.reduceLE, Nat.reduceMul, Nat.reduceMod, evW, fn_eq, evR, Nat.reduceAdd, Nat.reduceLT, Nat.reduceLeDiff, reduceIte, Nat.reduceEqDiff, reduceCtorEq, argEnv, eq_self, if_true, if_false]
  repeat' ((first | rw [guardK_cases] | rw [condK_bool] | rw [guardD_cases]); split <;> simp only [c40, eBase, ha, rItem, h67, hw, evX, Int.reduceEq, Int.reduceLT, Int.reduceLE, Nat.reduceMul, Nat.reduceMod, evW, evR, Nat.reduceAdd, Nat.reduceLT, Nat.reduceLeDiff, reduceIte, Nat.reduceEqDiff, reduceCtorEq, argEnv, eq_self, if_true, if_false, *])
  generalize hz : itLim _ _ = z
  have key : ∀ H' : Heap, Sits H' H.length (bBase b) → ∀ st : St, keepEnv st.1 [1, 2, 3, 7] = [(1, eItems f), (2, .int .i64 ((i + 1 : Nat) : Int)), (3, .ptr H.length 0 4 0 0), (7, .int .i64 ((pth b.types f i).length : Int))] → st.2 = H' → ∀ z, itLim (evCode (evC cprog) itLim c40_l0) st = z →
      ∃ T, z = some (.exit 0, T, H') ∧ get T 2 = some (.int .i64 (endOf b.types f i : Int)) := by
    intro H' hs st h1 h2 z hz
    simp only [bBase, Sits] at hs
    have hs0 := hs []
    simp only [List.append_nil] at hs0
    have L := loop_rule (σ := Nat) (m := [1, 2, 3, 7]) (env := fun k => [(1, eItems f), (2, .int .i64 (k : Int)), (3, .ptr H.length 0 4 0 0), (7, .int .i64 ((pth b.types f i).length : Int))]) (hp := fun _ => H')
      (P := fun _ r => ∃ T, r = (.exit 0, T, H') ∧ get T 2 = some (.int .i64 (endOf b.types f i : Int))) (mu := fun k => f.length - k)
      (I := fun k => i < k ∧ k ≤ f.length ∧ ∀ j : Nat, i < j → j < k → (i : Int) ∈ pth b.types f j) (evCode (evC cprog) itLim c40_l0) ?_ (i + 1) st ⟨by omega, by omega, fun j h1 h2 => by omega⟩ h1 h2 z hz
    · obtain ⟨_, rfl, T, rfl, hT⟩ := L
      exact ⟨T, rfl, hT⟩
    · intro k ⟨i1, i2, i3⟩ E hE
      by_cases hkl : k < f.length
      · have hk1 : (k : Int) < (f.length : Int) := by omega
        obtain ⟨y, c, u, hy, hc, hcl, hu, _⟩ := hr.item hkl
        have hay := aItem hy
        have h67' := f67 b hr.tys c hcl (by omega)
        rw [← hc] at h67'
        simp only [eBase] at h67'
        have hd' : (anc b.types c).length = (pth b.types f k).length := by rw [pth_len hr k k (Nat.le_refl _) hkl, typ_at hy, hc, Int.toNat_natCast]
        rw [hd'] at h67'
        have hwk := wrapS (i := k) (n := 300) (by omega) (by omega)
        have hiff := below_len hr i1 hkl (IsEnd.way i3 i1 (Nat.le_refl _))
        by_cases hm : (i : Int) ∈ pth b.types f k
        · have hlt : ((pth b.types f i).length : Int) < ((pth b.types f k).length : Int) := by have := hiff.1 hm; omega
          simp only [c40_l0, hE, hk1, hlen, hay, hs0, rItem, h67', hlt, hwk, evX, Int.reduceEq, Int.reduceLT, Int.reduceLE, Nat.reduceMul, Nat.reduceMod, evW, fn_eq, evR, Nat.reduceAdd, Nat.reduceLT, Nat.reduceLeDiff, reduceIte, Nat.reduceEqDiff, reduceCtorEq, argEnv, eq_self, if_true, if_false]
          repeat' ((first | rw [guardK_cases] | rw [condK_bool] | rw [guardD_cases]); split <;> simp only [c40_l0, hE, hk1, hlen, hay, hs0, rItem, h67', hlt, hwk, evX, Int.reduceEq, Int.reduceLT, Int.reduceLE, Nat.reduceMul, Nat.reduceMod, evW, evR, Nat.reduceAdd, Nat.reduceLT, Nat.reduceLeDiff, reduceIte, Nat.reduceEqDiff, reduceCtorEq, argEnv, eq_self, if_true, if_false, *])
          refine q_next (k + 1) (by rfl) rfl ⟨by omega, by omega, fun j h1 h2 => ?_⟩ (by omega) fun r h => h
          by_cases e : j = k
          · subst e; exact hm
          · exact i3 j h1 (by omega)
        · have hlt : ¬ ((pth b.types f i).length : Int) < ((pth b.types f k).length : Int) := fun h => hm (hiff.2 (by omega))
          simp only [c40_l0, hE, hk1, hlen, hay, hs0, rItem, h67', hlt, evX, Int.reduceEq, Int.reduceLT, Int.reduceLE, Nat.reduceMul, Nat.reduceMod, evW, fn_eq, evR, Nat.reduceAdd, Nat.reduceLT, Nat.reduceLeDiff, reduceIte, Nat.reduceEqDiff, reduceCtorEq, argEnv, eq_self, if_true, if_false]
          repeat' ((first | rw [guardK_cases] | rw [condK_bool] | rw [guardD_cases]); split <;> simp only [c40_l0, hE, hk1, hlen, hay, hs0, rItem, h67', hlt, evX, Int.reduceEq, Int.reduceLT, Int.reduceLE, Nat.reduceMul, Nat.reduceMod, evW, evR, Nat.reduceAdd, Nat.reduceLT, Nat.reduceLeDiff, reduceIte, Nat.reduceEqDiff, reduceCtorEq, argEnv, eq_self, if_true, if_false, *])
          refine q_exit ⟨_, rfl, ?_⟩
          rw [(endOf_is b.types f hi).uniq ⟨i1, i2, i3, fun _ => hm⟩]; rfl
      · have hk1 : ¬ (k : Int) < (f.length : Int) := by omega
        simp only [c40_l0, hE, hk1, hlen, evX, Int.reduceEq, Int.reduceLT, Int.reduceLE, Nat.reduceMul, Nat.reduceMod, evW, fn_eq, evR, Nat.reduceAdd, Nat.reduceLT, Nat.reduceLeDiff, reduceIte, Nat.reduceEqDiff, reduceCtorEq, argEnv, eq_self, if_true, if_false]
        repeat' ((first | rw [guardK_cases] | rw [condK_bool] | rw [guardD_cases]); split <;> simp only [c40_l0, hE, hk1, hlen, evX, Int.reduceEq, Int.reduceLT, Int.reduceLE, Nat.reduceMul, Nat.reduceMod, evW, evR, Nat.reduceAdd, Nat.reduceLT, Nat.reduceLeDiff, reduceIte, Nat.reduceEqDiff, reduceCtorEq, argEnv, eq_self, if_true, if_false, *])
        refine q_exit ⟨_, rfl, ?_⟩
        rw [(endOf_is b.types f hi).uniq ⟨i1, i2, i3, fun h => absurd h hkl⟩]; rfl
  obtain ⟨T, rfl, hT⟩ := key (H ++ [bBase b]) (.mk (by simp)) _ (by rfl) (by simp [bBase]) z hz
  simp only [hT, evX, Int.reduceEq, Int.reduceLT, Int.reduceLE, Nat.reduceMul, Nat.reduceMod, evW, fn_eq, evR, Nat.reduceAdd, Nat.reduceLT, Nat.reduceLeDiff, reduceIte, Nat.reduceEqDiff, reduceCtorEq, argEnv, eq_self, if_true, if_false]
  repeat' ((first | rw [guardK_cases] | rw [condK_bool] | rw [guardD_cases]); split <;> simp only [hT, evX, Int.reduceEq, Int.reduceLT, Int.reduceLE, Nat.reduceMul, Nat.reduceMod, evW, evR, Nat.reduceAdd, Nat.reduceLT, Nat.reduceLeDiff, reduceIte, Nat.reduceEqDiff, reduceCtorEq, argEnv, eq_self, if_true, if_false, *])
theorem f64r (b : Base) (f : List Item) (hr : Right b f) (i : Nat) (hi : i < f.length) (H : Heap) : cal (evC cprog) false 64 [eBase b, eItems f, .int .i64 (i : Int)] H = some (.int .i64 (par b.types f i), H) := by
  obtain ⟨x, k, t, hx, hk, hkl, ht, _⟩ := hr.item hi
  exact f64 b f i x hx k t hk ht (by have := hr.len; omega) H
theorem f68 (b : Base) (f : List Item) (hr : Right b f) (p k : Nat) (hk : k < f.length) (H : Heap) : cal (evC cprog) false 68 [eBase b, eItems f, .int .i64 (p : Int), .int .i64 (k : Int)] H = some (.bool (decide ((p : Int) ∈ pthI b.types f (par b.types f k))), H) := by
  rw [cal_of at68]
  have h64 := f64r b f hr k hk
  simp only [eBase] at h64
  have hb := par_lt b.types f k
  simp only [c68, eBase, h64, evX, Int.reduceEq, Int.reduceLT, Int.reduceLE, Nat.reduceMul, Nat.reduceMod, evW, fn_eq, evR, Nat.reduceAdd, Nat.reduceLT, Nat.reduceLeDiff, reduceIte, Nat.reduceEqDiff, reduceCtorEq, argEnv, eq_self, if_true, if_false]
  repeat' ((first | rw [guardK_cases] | rw [condK_bool] | rw [guardD_cases]); split <;> simp only [c68, eBase, h64, evX, Int.reduceEq, Int.reduceLT, Int.reduceLE, Nat.reduceMul, Nat.reduceMod, evW, evR, Nat.reduceAdd, Nat.reduceLT, Nat.reduceLeDiff, reduceIte, Nat.reduceEqDiff, reduceCtorEq, argEnv, eq_self, if_true, if_false, *])
  generalize hz : itLim _ _ = z
  have key : ∀ H' : Heap, Sits H' H.length (bBase b) → ∀ st : St, keepEnv st.1 [1, 2, 3, 4] = [(1, eItems f), (2, .int .i64 (p : Int)), (3, .int .i64 (par b.types f k)), (4, .ptr H.length 0 4 0 0)] → st.2 = H' → ∀ z, itLim (evCode (evC cprog) itLim c68_l0) st = z →
      ∃ c T, z = some (c, T, H') ∧ (((p : Int) ∈ pthI b.types f (par b.types f k) ∧ c = .ret ∧ get T 8 = some (.bool true)) ∨ ((p : Int) ∉ pthI b.types f (par b.types f k) ∧ c = .exit 0)) := by
    intro H' hs st h1 h2 z hz
    simp only [bBase, Sits] at hs
    have hs0 := hs []
    simp only [List.append_nil] at hs0
    have L := loop_rule (σ := Int) (m := [1, 2, 3, 4]) (env := fun k => [(1, eItems f), (2, .int .i64 (p : Int)), (3, .int .i64 k), (4, .ptr H.length 0 4 0 0)]) (hp := fun _ => H')
      (P := fun k r => ∃ c T, r = (c, T, H') ∧ (((p : Int) ∈ pthI b.types f k ∧ c = .ret ∧ get T 8 = some (.bool true)) ∨ ((p : Int) ∉ pthI b.types f k ∧ c = .exit 0))) (mu := fun k => (k + 1).toNat)
      (I := fun k => -1 ≤ k ∧ k < (f.length : Int)) (evCode (evC cprog) itLim c68_l0) ?_ (par b.types f k) st ⟨by omega, by omega⟩ h1 h2 z hz
    · obtain ⟨_, rfl, c, T, rfl, hT⟩ := L
      exact ⟨c, T, rfl, hT⟩
    · intro k ⟨i1, i2⟩ E hE
      by_cases h0 : 0 ≤ k
      · obtain ⟨j, rfl⟩ : ∃ j : Nat, k = (j : Int) := ⟨k.toNat, by omega⟩
        by_cases e : j = p
        · subst e
          simp only [c68_l0, hE, h0, evX, Int.reduceEq, Int.reduceLT, Int.reduceLE, Nat.reduceMul, Nat.reduceMod, evW, fn_eq, evR, Nat.reduceAdd, Nat.reduceLT, Nat.reduceLeDiff, reduceIte, Nat.reduceEqDiff, reduceCtorEq, argEnv, eq_self, if_true, if_false]
          repeat' ((first | rw [guardK_cases] | rw [condK_bool] | rw [guardD_cases]); split <;> simp only [c68_l0, hE, h0, evX, Int.reduceEq, Int.reduceLT, Int.reduceLE, Nat.reduceMul, Nat.reduceMod, evW, evR, Nat.reduceAdd, Nat.reduceLT, Nat.reduceLeDiff, reduceIte, Nat.reduceEqDiff, reduceCtorEq, argEnv, eq_self, if_true, if_false, *])
          exact q_ret ⟨_, _, rfl, .inl ⟨by rw [pthI_nat]; exact pth_self _ _ _, rfl, by rfl⟩⟩
        · have e' : ¬ (j : Int) = (p : Int) := by omega
          have h64 := f64r b f hr j (by omega)
          simp only [eBase] at h64
          have hb := par_lt b.types f j
          simp only [c68_l0, hE, h0, e', hs0, h64, evX, Int.reduceEq, Int.reduceLT, Int.reduceLE, Nat.reduceMul, Nat.reduceMod, evW, fn_eq, evR, Nat.reduceAdd, Nat.reduceLT, Nat.reduceLeDiff, reduceIte, Nat.reduceEqDiff, reduceCtorEq, argEnv, eq_self, if_true, if_false]
          repeat' ((first | rw [guardK_cases] | rw [condK_bool] | rw [guardD_cases]); split <;> simp only [c68_l0, hE, h0, e', hs0, h64, evX, Int.reduceEq, Int.reduceLT, Int.reduceLE, Nat.reduceMul, Nat.reduceMod, evW, evR, Nat.reduceAdd, Nat.reduceLT, Nat.reduceLeDiff, reduceIte, Nat.reduceEqDiff, reduceCtorEq, argEnv, eq_self, if_true, if_false, *])
          refine q_next (par b.types f j) (by rfl) rfl (by omega) (by omega) fun r h => ?_
          obtain ⟨c, T, h3, h⟩ := h
          refine ⟨c, T, h3, ?_⟩
          rw [pthI_nat, pth_eq _ _ (by omega)]
          have e2 : ¬ (p : Int) = (j : Int) := by omega
          simpa [e2] using h
      · simp only [c68_l0, hE, h0, evX, Int.reduceEq, Int.reduceLT, Int.reduceLE, Nat.reduceMul, Nat.reduceMod, evW, fn_eq, evR, Nat.reduceAdd, Nat.reduceLT, Nat.reduceLeDiff, reduceIte, Nat.reduceEqDiff, reduceCtorEq, argEnv, eq_self, if_true, if_false]
        repeat' ((first | rw [guardK_cases] | rw [condK_bool] | rw [guardD_cases]); split <;> simp only [c68_l0, hE, h0, evX, Int.reduceEq, Int.reduceLT, Int.reduceLE, Nat.reduceMul, Nat.reduceMod, evW, evR, Nat.reduceAdd, Nat.reduceLT, Nat.reduceLeDiff, reduceIte, Nat.reduceEqDiff, reduceCtorEq, argEnv, eq_self, if_true, if_false, *])
        exact q_exit ⟨_, _, rfl, .inr ⟨by rw [pthI_neg _ _ (by omega)]; simp, rfl⟩⟩
  obtain ⟨c, T, rfl, hT⟩ := key (H ++ [bBase b]) (.mk (by simp)) _ (by rfl) (by simp [bBase]) z hz
  rcases hT with ⟨h, rfl, hT⟩ | ⟨h, rfl⟩
  · simp only [hT, h, evX, Int.reduceEq, Int.reduceLT, Int.reduceLE, Nat.reduceMul, Nat.reduceMod, evW, fn_eq, evR, Nat.reduceAdd, Nat.reduceLT, Nat.reduceLeDiff, reduceIte, Nat.reduceEqDiff, reduceCtorEq, argEnv, eq_self, if_true, if_false]
    repeat' ((first | rw [guardK_cases] | rw [condK_bool] | rw [guardD_cases]); split <;> simp only [hT, h, evX, Int.reduceEq, Int.reduceLT, Int.reduceLE, Nat.reduceMul, Nat.reduceMod, evW, evR, Nat.reduceAdd, Nat.reduceLT, Nat.reduceLeDiff, reduceIte, Nat.reduceEqDiff, reduceCtorEq, argEnv, eq_self, if_true, if_false, *])
  · simp only [h, evX, Int.reduceEq, Int.reduceLT, Int.reduceLE, Nat.reduceMul, Nat.reduceMod, evW, fn_eq, evR, Nat.reduceAdd, Nat.reduceLT, Nat.reduceLeDiff, reduceIte, Nat.reduceEqDiff, reduceCtorEq, argEnv, eq_self, if_true, if_false]
    repeat' ((first | rw [guardK_cases] | rw [condK_bool] | rw [guardD_cases]); split <;> simp only [h, evX, Int.reduceEq, Int.reduceLT, Int.reduceLE, Nat.reduceMul, Nat.reduceMod, evW, evR, Nat.reduceAdd, Nat.reduceLT, Nat.reduceLeDiff, reduceIte, Nat.reduceEqDiff, reduceCtorEq, argEnv, eq_self, if_true, if_false, *])
theorem below_iff {b : Base} {f : List Item} {i k : Nat} (hik : i < k) (hk : k < f.length) : (i : Int) ∈ pthI b.types f (par b.types f k) ↔ (i : Int) ∈ pth b.types f k := by
  rw [pth_eq _ _ hk]
  have : ¬ (i : Int) = (k : Int) := by omega
  simp [this]
theorem f41 (b : Base) (f : List Item) (hr : Right b f) (i : Nat) (hi : i < f.length) (H : Heap) : cal (evC cprog) false 41 [eBase b, eItems f, .int .i64 (i : Int)] H = some (.int .i64 (endOf b.types f i : Int), H) := by
  rw [cal_of at41]
  have hl := hr.len
  have hlen := (sItems [] f).len
  simp only [List.length_map] at hlen
  have hw := wrapS (i := i) (n := 300) (by omega) (by omega)
  simp only [c41, eBase, hw, evX, Int.reduceEq, Int.reduceLT, Int.reduceLE, Nat.reduceMul, Nat.reduceMod, evW, fn_eq, evR, Nat.reduceAdd, Nat.reduceLT, Nat.reduceLeDiff, reduceIte, Nat.reduceEqDiff, reduceCtorEq, argEnv, eq_self, if_true, if_false]
  repeat' ((first | rw [guardK_cases] | rw [condK_bool] | rw [guardD_cases]); split <;> simp only [c41, eBase, hw, evX, Int.reduceEq, Int.reduceLT, Int.reduceLE, Nat.reduceMul, Nat.reduceMod, evW, evR, Nat.reduceAdd, Nat.reduceLT, Nat.reduceLeDiff, reduceIte, Nat.reduceEqDiff, reduceCtorEq, argEnv, eq_self, if_true, if_false, *])
  generalize hz : itLim _ _ = z
  have key : ∀ H' : Heap, Sits H' H.length (bBase b) → ∀ st : St, keepEnv st.1 [1, 2, 3, 7] = [(1, eItems f), (2, .int .i64 (i : Int)), (3, .ptr H.length 0 4 0 0), (7, .int .i64 ((i + 1 : Nat) : Int))] → st.2 = H' → ∀ z, itLim (evCode (evC cprog) itLim c41_l0) st = z →
      ∃ T, z = some (.exit 0, T, H') ∧ get T 7 = some (.int .i64 (endOf b.types f i : Int)) := by
    intro H' hs st h1 h2 z hz
    simp only [bBase, Sits] at hs
    have hs0 := hs []
    simp only [List.append_nil] at hs0
    have L := loop_rule (σ := Nat) (m := [1, 2, 3, 7]) (env := fun k => [(1, eItems f), (2, .int .i64 (i : Int)), (3, .ptr H.length 0 4 0 0), (7, .int .i64 (k : Int))]) (hp := fun _ => H')
      (P := fun _ r => ∃ T, r = (.exit 0, T, H') ∧ get T 7 = some (.int .i64 (endOf b.types f i : Int))) (mu := fun k => f.length - k)
      (I := fun k => i < k ∧ k ≤ f.length ∧ ∀ j : Nat, i < j → j < k → (i : Int) ∈ pth b.types f j) (evCode (evC cprog) itLim c41_l0) ?_ (i + 1) st ⟨by omega, by omega, fun j h1 h2 => by omega⟩ h1 h2 z hz
    · obtain ⟨_, rfl, T, rfl, hT⟩ := L
      exact ⟨T, rfl, hT⟩
    · intro k ⟨i1, i2, i3⟩ E hE
      by_cases hkl : k < f.length
      · have hk1 : (k : Int) < (f.length : Int) := by omega
        have h68 := f68 b f hr i k hkl
        simp only [eBase] at h68
        have hwk := wrapS (i := k) (n := 300) (by omega) (by omega)
        have hiff := below_iff (b := b) i1 hkl
        by_cases hm : (i : Int) ∈ pth b.types f k
        · rw [decide_eq_true (hiff.2 hm)] at h68
          simp only [c41_l0, hE, hk1, hlen, hs0, h68, hwk, evX, Int.reduceEq, Int.reduceLT, Int.reduceLE, Nat.reduceMul, Nat.reduceMod, evW, fn_eq, evR, Nat.reduceAdd, Nat.reduceLT, Nat.reduceLeDiff, reduceIte, Nat.reduceEqDiff, reduceCtorEq, argEnv, eq_self, if_true, if_false]
          repeat' ((first | rw [guardK_cases] | rw [condK_bool] | rw [guardD_cases]); split <;> simp only [c41_l0, hE, hk1, hlen, hs0, h68, hwk, evX, Int.reduceEq, Int.reduceLT, Int.reduceLE, Nat.reduceMul, Nat.reduceMod, evW, evR, Nat.reduceAdd, Nat.reduceLT, Nat.reduceLeDiff, reduceIte, Nat.reduceEqDiff, reduceCtorEq, argEnv, eq_self, if_true, if_false, *])
          refine q_next (k + 1) (by rfl) rfl ⟨by omega, by omega, fun j h1 h2 => ?_⟩ (by omega) fun r h => h
          by_cases e : j = k
          · subst e; exact hm
          · exact i3 j h1 (by omega)
        · rw [decide_eq_false (fun h => hm (hiff.1 h))] at h68
          simp only [c41_l0, hE, hk1, hlen, hs0, h68, evX, Int.reduceEq, Int.reduceLT, Int.reduceLE, Nat.reduceMul, Nat.reduceMod, evW, fn_eq, evR, Nat.reduceAdd, Nat.reduceLT, Nat.reduceLeDiff, reduceIte, Nat.reduceEqDiff, reduceCtorEq, argEnv, eq_self, if_true, if_false]
          repeat' ((first | rw [guardK_cases] | rw [condK_bool] | rw [guardD_cases]); split <;> simp only [c41_l0, hE, hk1, hlen, hs0, h68, evX, Int.reduceEq, Int.reduceLT, Int.reduceLE, Nat.reduceMul, Nat.reduceMod, evW, evR, Nat.reduceAdd, Nat.reduceLT, Nat.reduceLeDiff, reduceIte, Nat.reduceEqDiff, reduceCtorEq, argEnv, eq_self, if_true, if_false, *])
          refine q_exit ⟨_, rfl, ?_⟩
          rw [(endOf_is b.types f hi).uniq ⟨i1, i2, i3, fun _ => hm⟩]; rfl
      · have hk1 : ¬ (k : Int) < (f.length : Int) := by omega
        simp only [c41_l0, hE, hk1, hlen, evX, Int.reduceEq, Int.reduceLT, Int.reduceLE, Nat.reduceMul, Nat.reduceMod, evW, fn_eq, evR, Nat.reduceAdd, Nat.reduceLT, Nat.reduceLeDiff, reduceIte, Nat.reduceEqDiff, reduceCtorEq, argEnv, eq_self, if_true, if_false]
        repeat' ((first | rw [guardK_cases] | rw [condK_bool] | rw [guardD_cases]); split <;> simp only [c41_l0, hE, hk1, hlen, evX, Int.reduceEq, Int.reduceLT, Int.reduceLE, Nat.reduceMul, Nat.reduceMod, evW, evR, Nat.reduceAdd, Nat.reduceLT, Nat.reduceLeDiff, reduceIte, Nat.reduceEqDiff, reduceCtorEq, argEnv, eq_self, if_true, if_false, *])
        refine q_exit ⟨_, rfl, ?_⟩
        rw [(endOf_is b.types f hi).uniq ⟨i1, i2, i3, fun h => absurd h hkl⟩]; rfl
  obtain ⟨T, rfl, hT⟩ := key (H ++ [bBase b]) (.mk (by simp)) _ (by rfl) (by simp [bBase]) z hz
  simp only [hT, evX, Int.reduceEq, Int.reduceLT, Int.reduceLE, Nat.reduceMul, Nat.reduceMod, evW, fn_eq, evR, Nat.reduceAdd, Nat.reduceLT, Nat.reduceLeDiff, reduceIte, Nat.reduceEqDiff, reduceCtorEq, argEnv, eq_self, if_true, if_false]
  repeat' ((first | rw [guardK_cases] | rw [condK_bool] | rw [guardD_cases]); split <;> simp only [hT, evX, Int.reduceEq, Int.reduceLT, Int.reduceLE, Nat.reduceMul, Nat.reduceMod, evW, evR, Nat.reduceAdd, Nat.reduceLT, Nat.reduceLeDiff, reduceIte, Nat.reduceEqDiff, reduceCtorEq, argEnv, eq_self, if_true, if_false, *])
end Go.Proofs.Ytcbmakanokmdjaa.Code
