/- plain: which lists are forests, as the document asks: the walk up from the item in front. -/
import Derived.Test.YtcbmakanokmdjaaRq
set_option linter.unusedSimpArgs false
set_option linter.unusedVariables false
namespace Go.Proofs.Ytcbmakanokmdjaa.Code
open Go.Proofs.Ytcbmakanokmdjaa.Ev

theorem pthI_neg (ts : List Ty) (f : List Item) {p : Int} (h : p < 0) : pthI ts f p = [] := ancI_neg _ h
theorem pthI_nat (ts : List Ty) (f : List Item) (k : Nat) : pthI ts f (k : Int) = pth ts f k := ancI_nat _ k
theorem pth_self (ts : List Ty) (f : List Item) (k : Nat) : (k : Int) ∈ pth ts f k := anc_self _ k
theorem pth_last (ts : List Ty) (f : List Item) (k : Nat) : (pth ts f k).getLast? = some (k : Int) := by
  unfold pth; rw [← last_anc]; simp
theorem pthI_inj {ts : List Ty} {f : List Item} {p q : Int} (hp : -1 ≤ p) (hq : -1 ≤ q) (h : pthI ts f p = pthI ts f q) : p = q := by
  by_cases h1 : p < 0
  · by_cases h2 : q < 0
    · omega
    · obtain ⟨q, rfl⟩ : ∃ q' : Nat, q = (q' : Int) := ⟨q.toNat, by omega⟩
      rw [pthI_neg _ _ h1, pthI_nat] at h
      have := pth_self ts f q
      rw [← h] at this; cases this
  · obtain ⟨p, rfl⟩ : ∃ q' : Nat, p = (q' : Int) := ⟨p.toNat, by omega⟩
    by_cases h2 : q < 0
    · rw [pthI_neg _ _ h2, pthI_nat] at h
      have := pth_self ts f p
      rw [h] at this; cases this
    · obtain ⟨q, rfl⟩ : ∃ q' : Nat, q = (q' : Int) := ⟨q.toNat, by omega⟩
      rw [pthI_nat, pthI_nat] at h
      have h1 := pth_last ts f p
      rw [h, pth_last] at h1
      cases h1; rfl
theorem take_way (ts : List Ty) (f : List Item) {i : Nat} (hi : i ≤ f.length) {m : Nat} {a : Int} (h : (way ts f i)[m]? = some a) : (way ts f i).take (m + 1) = pth ts f a.toNat := by
  cases i with
  | zero => simp [way, wayTo] at h
  | succ i => exact take_anc (pts ts f) (good_pts ts f) (by rw [pts_len]; omega) i i (Nat.le_refl _) (by omega) m a h
/-- where the walk up from the item in front ends -/
def Walk (ts : List Ty) (f : List Item) (i : Nat) (p K : Int) : Prop :=
  (K < p ∧ p ∉ way ts f i) ∨ ((p < 0 ∨ p ∈ way ts f i) ∧ ((K = p ∧ (way ts f i)[(pthI ts f p).length]? = none) ∨ (p < K ∧ (way ts f i)[(pthI ts f p).length]? = some K)))
theorem walk_end (ts : List Ty) (f : List Item) {i : Nat} (hi : i ≤ f.length) {p k : Int} (hp : -1 ≤ p) (hk : -1 ≤ k) (hki : k < (i : Int)) (suf : List Int) (hw : way ts f i = pthI ts f k ++ suf) (hs : ∀ e ∈ suf, p < e ∧ par ts f e.toNat ≠ p) (h : k ≤ p ∨ par ts f k.toNat = p) : Walk ts f i p k := by
  have pin : 0 ≤ k → k ∈ pthI ts f k := fun h => by
    obtain ⟨q, rfl⟩ : ∃ q' : Nat, k = (q' : Int) := ⟨k.toNat, by omega⟩
    rw [pthI_nat]; exact pth_self ts f q
  by_cases h1 : k < p
  · refine .inl ⟨h1, fun hm => ?_⟩
    rw [hw] at hm
    rcases List.mem_append.1 hm with hm | hm
    · by_cases h0 : k < 0
      · rw [pthI_neg _ _ h0] at hm; cases hm
      · obtain ⟨q, rfl⟩ : ∃ q' : Nat, k = (q' : Int) := ⟨k.toNat, by omega⟩
        rw [pthI_nat] at hm
        have := pth_bound hm; omega
    · have := (hs p hm).1; omega
  by_cases h2 : k = p
  · subst h2
    refine .inr ⟨?_, .inl ⟨rfl, ?_⟩⟩
    · by_cases h0 : k < 0
      · exact .inl h0
      · exact .inr (by rw [hw]; exact List.mem_append_left _ (pin (by omega)))
    · cases suf with
      | nil => rw [hw]; simp
      | cons e suf =>
        exfalso
        have he : (way ts f i)[(pthI ts f k).length]? = some e := by rw [hw]; simp
        have ht := take_way ts f hi he
        have hb := way_bound (List.mem_of_getElem? he)
        rw [hw, List.take_append] at ht
        simp only [Nat.add_sub_cancel_left, List.take_succ_cons, List.take_zero, List.take_of_length_le (Nat.le_succ _)] at ht
        rw [pth_eq ts f (by omega), show ((e.toNat : Nat) : Int) = e by omega] at ht
        have := List.append_inj_left' ht rfl
        exact (hs e (List.mem_cons_self ..)).2 (pthI_inj hk (par_lt ts f _).1 this).symm
  · have h3 : par ts f k.toNat = p := by rcases h with h | h; (· omega); exact h
    obtain ⟨q, rfl⟩ : ∃ q' : Nat, k = (q' : Int) := ⟨k.toNat, by omega⟩
    rw [Int.toNat_natCast] at h3
    rw [pthI_nat, pth_eq ts f (by omega), h3] at hw
    refine .inr ⟨?_, .inr ⟨by omega, by rw [hw]; simp⟩⟩
    by_cases h0 : p < 0
    · exact .inl h0
    · obtain ⟨p, rfl⟩ : ∃ q' : Nat, p = (q' : Int) := ⟨p.toNat, by omega⟩
      refine .inr ?_
      rw [hw, pthI_nat]
      simp [pth_self]
theorem way_start (ts : List Ty) (f : List Item) (i : Nat) : way ts f i = pthI ts f ((i : Int) - 1) ++ [] := by
  cases i with
  | zero => rw [pthI_neg _ _ (by omega)]; rfl
  | succ i =>
    rw [show ((i + 1 : Nat) : Int) - 1 = (i : Int) by omega, pthI_nat, List.append_nil]; rfl
def AllFit (ts : List Ty) (f : List Item) : Prop := ∀ (i : Nat) (x : Item), f[i]? = some x → fits ts x = true
theorem l35 (b : Base) (f : List Item) (hfit : AllFit b.types f) (hl : f.length ≤ 1000) (i : Nat) (hi : i < f.length) (H : Heap) (b1 : Nat) (hs1 : Sits H b1 (bBase b)) (p : Int) (hp : -1 ≤ p) (st : St) (G : Heap)
    (hE : keepEnv st.1 [1, 2, 6, 7, 8] = [(1, eItems f), (2, .ptr b1 0 4 0 0), (6, .int .i64 (i : Int)), (7, .int .i64 p), (8, .int .i64 ((i : Int) - 1))]) (hH : st.2 = H ++ G) (z : Option (CX × St)) (hz : itLim (evCode (evC cprog) itLim c35_l1) st = z) :
    ∃ T K, z = some (.exit 4, T, H ++ G) ∧ keepEnv T [1, 2, 6, 7, 8] = [(1, eItems f), (2, .ptr b1 0 4 0 0), (6, .int .i64 (i : Int)), (7, .int .i64 p), (8, .int .i64 K)] ∧ -1 ≤ K ∧ K < (i : Int) ∧ Walk b.types f i p K := by
  have L := loop_rule (σ := Int × List Int) (m := [1, 2, 6, 7, 8]) (env := fun s => [(1, eItems f), (2, .ptr b1 0 4 0 0), (6, .int .i64 (i : Int)), (7, .int .i64 p), (8, .int .i64 s.1)]) (hp := fun _ => H ++ G)
    (P := fun s r => ∃ T K, r = (.exit 4, T, H ++ G) ∧ keepEnv T [1, 2, 6, 7, 8] = [(1, eItems f), (2, .ptr b1 0 4 0 0), (6, .int .i64 (i : Int)), (7, .int .i64 p), (8, .int .i64 K)] ∧ -1 ≤ K ∧ K < (i : Int) ∧ Walk b.types f i p K)
    (mu := fun s => (s.1 + 1).toNat) (I := fun s => -1 ≤ s.1 ∧ s.1 < (i : Int) ∧ way b.types f i = pthI b.types f s.1 ++ s.2 ∧ ∀ e ∈ s.2, p < e ∧ par b.types f e.toNat ≠ p) (evCode (evC cprog) itLim c35_l1) ?_ ((i : Int) - 1, []) st ⟨by simp only; omega, by simp only; omega, way_start .., by simp⟩ hE hH z hz
  · obtain ⟨_, rfl, T, K, rfl, h⟩ := L
    exact ⟨T, K, rfl, h⟩
  · intro ⟨k, suf⟩ ⟨h1, h2, h3, h4⟩ E hE
    simp only at h1 h2 h3 h4 hE ⊢
    have hs := hs1
    simp only [bBase, Sits] at hs
    by_cases h0 : p < k
    · obtain ⟨j, rfl⟩ : ∃ j : Nat, k = (j : Int) := ⟨k.toNat, by omega⟩
      obtain ⟨y, hy⟩ : ∃ y, f[j]? = some y := ⟨_, List.getElem?_eq_getElem (by omega)⟩
      obtain ⟨c, t, q1, _, q2, _⟩ := fits_some (hfit j y hy)
      have h64 := f64 b f j y hy c t q1 q2 hl
      simp only [eBase] at h64
      have hb := par_lt b.types f j
      by_cases h5 : par b.types f j = p
      · simp only [c35_l1, hE, hs, h0, h64, h5, evX, Int.reduceEq, Int.reduceLT, Int.reduceLE, Nat.reduceMul, Nat.reduceMod, evW, fn_eq, evR, Nat.reduceAdd, Nat.reduceLT, Nat.reduceLeDiff, reduceIte, Nat.reduceEqDiff, reduceCtorEq, argEnv, eq_self, if_true, if_false]
        repeat' ((first | rw [guardK_cases] | rw [condK_bool] | rw [guardD_cases]); split <;> simp only [c35_l1, hE, hs, h0, h64, h5, evX, Int.reduceEq, Int.reduceLT, Int.reduceLE, Nat.reduceMul, Nat.reduceMod, evW, evR, Nat.reduceAdd, Nat.reduceLT, Nat.reduceLeDiff, reduceIte, Nat.reduceEqDiff, reduceCtorEq, argEnv, eq_self, if_true, if_false, *])
        exact q_exit ⟨_, _, rfl, by rfl, by omega, by omega, walk_end b.types f (by omega) hp (by omega) (by omega) suf h3 h4 (.inr (by rw [Int.toNat_natCast]; exact h5))⟩
      · simp only [c35_l1, hE, hs, h0, h64, h5, evX, Int.reduceEq, Int.reduceLT, Int.reduceLE, Nat.reduceMul, Nat.reduceMod, evW, fn_eq, evR, Nat.reduceAdd, Nat.reduceLT, Nat.reduceLeDiff, reduceIte, Nat.reduceEqDiff, reduceCtorEq, argEnv, eq_self, if_true, if_false]
        repeat' ((first | rw [guardK_cases] | rw [condK_bool] | rw [guardD_cases]); split <;> simp only [c35_l1, hE, hs, h0, h64, h5, evX, Int.reduceEq, Int.reduceLT, Int.reduceLE, Nat.reduceMul, Nat.reduceMod, evW, evR, Nat.reduceAdd, Nat.reduceLT, Nat.reduceLeDiff, reduceIte, Nat.reduceEqDiff, reduceCtorEq, argEnv, eq_self, if_true, if_false, *])
        refine q_next (par b.types f j, (j : Int) :: suf) (by rfl) rfl ⟨hb.1, by simp only; omega, ?_, ?_⟩ (by simp only; omega) fun r h => h
        · simp only
          rw [h3, pthI_nat, pth_eq b.types f (by omega)]; simp
        · intro e he
          rcases List.mem_cons.1 he with rfl | he
          · exact ⟨h0, by rw [Int.toNat_natCast]; exact h5⟩
          · exact h4 e he
    · simp only [c35_l1, hE, h0, evX, Int.reduceEq, Int.reduceLT, Int.reduceLE, Nat.reduceMul, Nat.reduceMod, evW, fn_eq, evR, Nat.reduceAdd, Nat.reduceLT, Nat.reduceLeDiff, reduceIte, Nat.reduceEqDiff, reduceCtorEq, argEnv, eq_self, if_true, if_false]
      repeat' ((first | rw [guardK_cases] | rw [condK_bool] | rw [guardD_cases]); split <;> simp only [c35_l1, hE, h0, evX, Int.reduceEq, Int.reduceLT, Int.reduceLE, Nat.reduceMul, Nat.reduceMod, evW, evR, Nat.reduceAdd, Nat.reduceLT, Nat.reduceLeDiff, reduceIte, Nat.reduceEqDiff, reduceCtorEq, argEnv, eq_self, if_true, if_false, *])
      exact q_exit ⟨_, _, rfl, by rfl, by omega, by omega, walk_end b.types f (by omega) hp (by omega) (by omega) suf h3 h4 (.inl (by omega))⟩
end Go.Proofs.Ytcbmakanokmdjaa.Code
