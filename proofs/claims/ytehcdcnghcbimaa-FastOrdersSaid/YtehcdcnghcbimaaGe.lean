/- The document's Order. -/
import Derived.Test.YtehcdcnghcbimaaGc
set_option linter.unusedSimpArgs false
set_option linter.unusedVariables false
namespace Go.Proofs.Ytehcdcnghcbimaa.Code
open Go.Proofs.Ytehcdcnghcbimaa.Ev

theorem valid_iff {F : Int} {rows : List Row} : valid (F, rows) = true ↔ (1 ≤ F ∧ F ≤ 4 ∧ (rows.length : Int) ≤ 20) ∧ ∀ (i : Nat) (r : Row), rows[i]? = some r → rowOk F rows i r = true := by
  simp only [valid, rowsOk, Bool.and_eq_true, decide_eq_true_eq, tell_true]
  constructor
  · rintro ⟨⟨⟨h1, h2⟩, h3⟩, h4⟩; exact ⟨⟨h1, h2, h3⟩, h4⟩
  · rintro ⟨⟨h1, h2, h3⟩, h4⟩; exact ⟨⟨⟨h1, h2⟩, h3⟩, h4⟩
theorem valid_good {F : Int} {rows : List Row} (h : valid (F, rows) = true) : GoodRows F rows := fun r hr => by
  obtain ⟨i, hi⟩ := List.getElem?_of_mem hr
  have := (valid_iff.1 h).2 i r hi
  simp only [rowOk, Bool.and_eq_true, decide_eq_true_eq] at this
  exact ⟨this.1.2, List.all_eq_true.1 this.2⟩
theorem valid_set {F : Int} {rows : List Row} (h : valid (F, rows) = true) {i : Nat} {r r' : Row} (hr : rows[i]? = some r) (hk : r'.1 = r.1) (hg : GoodRows F (rows.set i r')) : valid (F, rows.set i r') = true := by
  rw [valid_iff] at h ⊢
  refine ⟨by rw [List.length_set]; exact h.1, fun j s hs => ?_⟩
  have hil := (List.getElem?_eq_some_iff.1 hr).1
  have hkey : ∀ j, keyAt (rows.set i r') j = keyAt rows j := fun j => by
    unfold keyAt
    by_cases hj : j = i
    · subst hj; rw [List.getElem?_set_self hil, hr]; exact hk
    · rw [List.getElem?_set_ne (fun e => hj e.symm)]
  obtain ⟨s0, hs0, hsk⟩ : ∃ s0, rows[j]? = some s0 ∧ s.1 = s0.1 := by
    by_cases hj : j = i
    · subst hj; rw [List.getElem?_set_self hil] at hs; cases hs; exact ⟨r, hr, hk⟩
    · rw [List.getElem?_set_ne (fun e => hj e.symm)] at hs; exact ⟨s, hs, rfl⟩
  have h1 := h.2 j s0 hs0
  obtain ⟨g1, g2⟩ := hg s (List.mem_of_getElem? hs)
  simp only [rowOk, hkey, hsk, Bool.and_eq_true, decide_eq_true_eq] at h1 ⊢
  exact ⟨⟨h1.1.1, g1⟩, List.all_eq_true.2 g2⟩
theorem valid_after {F : Int} {rows : List Row} (h : valid (F, rows) = true) (c : Fld) : valid (F, after F rows c) = true := by
  have hg := (valid_good h).doOne c
  unfold after
  rcases doOne_cases F rows c with h1 | ⟨i, r, r', hr, _, hk, h1⟩
  · rw [h1]; exact h
  · rw [h1] at hg ⊢; exact valid_set h hr hk hg
theorem valid_run {F : Int} {rows : List Row} (h : valid (F, rows) = true) (l : List Fld) : valid (F, (runUnit F rows l).2) = true :=
  runIdx_inv (F := F) (fun r => valid (F, r) = true) (fun r c h => valid_after h c) l rows 0 h
theorem syncs_of {F : Int} {rows : List Row} {l : List Fld} (hv : valid (F, rows) = true) (hl : isUnit l = true) : syncs F rows l = if (runUnit F rows l).1 < 0 then ((F, (runUnit F rows l).2), 0) else ((0, []), 212) := by
  have : asked (F, rows) [l] = 0 := by simp [asked, hv, hl]
  simp only [syncs, this, if_true]
  by_cases h : (runUnit F rows l).1 < 0
  · rw [if_neg (by omega), if_pos h]
  · rw [if_pos (by omega), if_neg h]
theorem l24_0 (P2 P4 : AV) (us : List (List Fld)) (uv : AV) (H K G : Heap) (hs : SlAt H 1 uv (us.map rUnit)) (hul : us.length < 9223372036854775807) (hu : ∀ l ∈ us, l.length < 9223372036854775807) (b : Nat) (hb : P4 = .ptr (H.length + b) 0 2 0 0) (k4 : Blk) (hk4 : K[b]? = some k4) (hk : k4 = ⟨0, true, 24, 2, [[.int .i64 0, .nils]]⟩) (st : St)
    (hE : keepEnv st.1 [1, 2, 4, 7] = [(1, uv), (2, P2), (4, P4), (7, .int .i64 0)]) (hH : st.2 = H ++ (K ++ G)) (z : Option (CX × St)) (hz : itLim (evCode (evC cprog) itLim c24_l0) st = z) :
    (us.all isUnit = true ∧ Lv H K (fun x T => x = .exit 0 ∧ keepEnv T [1, 2, 4] = [(1, uv), (2, P2), (4, P4)]) z) ∨ (us.all isUnit = false ∧ Lv H K (fun x T => x = .ret ∧ get T 4 = some P4 ∧ get T 5 = some .nils ∧ get T 6 = some (.int .i64 211)) z) := by
  have h1 := hs.len
  simp only [List.length_map] at h1
  have hkb := (List.getElem?_eq_some_iff.1 hk4).1
  have hset : ∀ G, (H ++ (K ++ G)).set (H.length + b) k4 = H ++ (K ++ G) := fun G => by
    rw [set_app, List.set_append_left _ _ hkb]
    congr 2
    apply List.ext_getElem?
    intro j
    by_cases hj : j = b
    · subst hj; rw [List.getElem?_set_self hkb, hk4]
    · rw [List.getElem?_set_ne (fun e => hj e.symm)]
  have hat4 : ∀ G, (H ++ (K ++ G))[H.length + b]? = some k4 := fun G => by rw [at_app, List.getElem?_append_left hkb, hk4]
  subst hb
  subst hk
  exact all_rule us isUnit [1, 2, 4, 7] (fun k => [(1, uv), (2, P2), (4, .ptr (H.length + b) 0 2 0 0), (7, .int .i64 (k : Int))]) H K (evCode (evC cprog) itLim c24_l0) _ _
    (fun k l hk E G hE => by
      have hlt : k < us.length := (List.getElem?_eq_some_iff.1 hk).1
      have hi : (k : Int) < (us.length : Int) := by omega
      have h19 := fun H => f19 l (hu l (List.mem_of_getElem? hk)) H
      obtain ⟨_, p, hp, hat⟩ := hs.get k (rUnit l) (by rw [List.getElem?_map, hk]; rfl)
      simp only [c24_l0, hE, h1, hi, hp, hat.onex, h19, hat4, hset, wrapS hlt hul, evW, fn_eq, evR, Nat.reduceAdd, Nat.reduceLT, Nat.reduceLeDiff, reduceIte, Nat.reduceEqDiff, reduceCtorEq, argEnv, eq_self, if_true, if_false]
      repeat' (first | (rw [guardK_cases]; split <;> simp only [c24_l0, hE, h1, hi, hp, hat.onex, h19, hat4, hset, wrapS hlt hul, evW, evR, Nat.reduceAdd, Nat.reduceLT, Nat.reduceLeDiff, reduceIte, Nat.reduceEqDiff, reduceCtorEq, argEnv, eq_self, if_true, if_false, *]) | (rw [condK_bool]; split <;> simp only [c24_l0, hE, h1, hi, hp, hat.onex, h19, hat4, hset, wrapS hlt hul, evW, evR, Nat.reduceAdd, Nat.reduceLT, Nat.reduceLeDiff, reduceIte, Nat.reduceEqDiff, reduceCtorEq, argEnv, eq_self, if_true, if_false, *]) | (rw [guardD_cases]; split <;> simp only [c24_l0, hE, h1, hi, hp, hat.onex, h19, hat4, hset, wrapS hlt hul, evW, evR, Nat.reduceAdd, Nat.reduceLT, Nat.reduceLeDiff, reduceIte, Nat.reduceEqDiff, reduceCtorEq, argEnv, eq_self, if_true, if_false, *]))
      all_goals first | exact Sc.next (by first | (simp_all [rUnit]; done) | (simp_all [rUnit]; intros; omega)) (by rfl) | exact Sc.ret (by first | (simp_all [rUnit]; done) | (simp_all [rUnit]; intros; omega)) ⟨rfl, by first | rfl | exact ⟨rfl, rfl, rfl⟩⟩ | exact Sc.exit (by first | (simp_all [rUnit]; done) | (simp_all [rUnit]; intros; omega)) ⟨rfl, rfl⟩)
    (fun E G hE => by
      simp only [c24_l0, hE, h1, Int.lt_irrefl, evW, fn_eq, evR, Nat.reduceAdd, Nat.reduceLT, Nat.reduceLeDiff, reduceIte, Nat.reduceEqDiff, reduceCtorEq, argEnv, eq_self, if_true, if_false]
      repeat' (first | (rw [guardK_cases]; split <;> simp only [c24_l0, hE, h1, Int.lt_irrefl, evW, evR, Nat.reduceAdd, Nat.reduceLT, Nat.reduceLeDiff, reduceIte, Nat.reduceEqDiff, reduceCtorEq, argEnv, eq_self, if_true, if_false, *]) | (rw [condK_bool]; split <;> simp only [c24_l0, hE, h1, Int.lt_irrefl, evW, evR, Nat.reduceAdd, Nat.reduceLT, Nat.reduceLeDiff, reduceIte, Nat.reduceEqDiff, reduceCtorEq, argEnv, eq_self, if_true, if_false, *]) | (rw [guardD_cases]; split <;> simp only [c24_l0, hE, h1, Int.lt_irrefl, evW, evR, Nat.reduceAdd, Nat.reduceLT, Nat.reduceLeDiff, reduceIte, Nat.reduceEqDiff, reduceCtorEq, argEnv, eq_self, if_true, if_false, *]))
      exact .exit ⟨rfl, by rfl⟩) st G hE hH z hz
end Go.Proofs.Ytehcdcnghcbimaa.Code
