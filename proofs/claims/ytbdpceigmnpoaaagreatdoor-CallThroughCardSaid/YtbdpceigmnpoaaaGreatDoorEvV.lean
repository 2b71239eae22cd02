/- slices.IndexFunc with a test that changes what is on the heap. -/
import Derived.Test.YtbdpceigmnpoaaaGreatDoorEvU
set_option linter.unusedSimpArgs false
set_option linter.unusedVariables false
namespace Go.Proofs.YtbdpceigmnpoaaaGreatDoor.Ev

def runIdx {α S : Type} (p : S → α → Bool) (nx : S → α → S) : S → List α → Nat → Int × S
  | s, [], _ => (-1, s)
  | s, x :: l, k => if p s x = true then ((k : Int), nx s x) else runIdx p nx (nx s x) l (k + 1)
theorem gc_or (H : Heap) (r : AV) (H1 : Heap) : gc H r H1 = H1 ∨ (gc H r H1 = H ∧ H1.take H.length = H) := by
  unfold gc
  split
  · rename_i h; exact .inr ⟨rfl, eq_of_heq h.2⟩
  · exact .inl rfl
theorem indexFunc_st {cprog : Nat → Option CFn} {f : Nat} {sz : Nat} {ag : Bool} (hat : cprog f = some (cIndexFunc sz ag tFunc)) {α S : Type} (row : α → List AV) (val : α → AV) (hrow : ∀ x, Loads ag sz (row x) (val x)) (g : Nat) (caps : List AV)
    (p : S → α → Bool) (nx : S → α → S) (Inv : S → Heap → Prop) (a : AV) (l : List α) (ha : ∀ s H, Inv s H → SlAt H sz a (l.map row)) (hl : l.length < 9223372036854775807)
    (hp : ∀ x ∈ l, ∀ s H, Inv s H → ∃ H', cal (evC cprog) false g (capArgs caps [val x]) H = some (.bool (p s x), H') ∧ Inv (nx s x) H')
    (htr : ∀ s s' H H', Inv s H → Inv s' H' → H'.take H.length = H → Inv s' H) (s : S) (H : Heap) (hI : Inv s H) :
    ∃ H', cal (evC cprog) false f [a, .fn g caps] H = some (.int .i64 (runIdx p nx s l 0).1, H') ∧ Inv (runIdx p nx s l 0).2 H' := by
  rw [cal_of hat]
  simp only [cIndexFunc, fn_eq, (ha s H hI).len, evR, Nat.reduceAdd, Nat.reduceLT, Nat.reduceLeDiff, reduceIte, Nat.reduceEqDiff, reduceCtorEq, argEnv, eq_self, if_true, if_false]
  have L := loop_rule (σ := Nat × S × Heap) (m := [0, 1, 7, 8]) (env := fun i => [(0, a), (1, .fn g caps), (7, .int .i64 ((l.map row).length : Int)), (8, .int .i64 (i.1 : Int))]) (hp := fun i => i.2.2)
    (P := fun i r => Inv (runIdx p nx i.2.1 (l.drop i.1) i.1).2 r.2.2 ∧ if (runIdx p nx i.2.1 (l.drop i.1) i.1).1 = -1 then r.1 = .exit 0 else r.1 = .ret ∧ get r.2.1 4 = some (.int .i64 (runIdx p nx i.2.1 (l.drop i.1) i.1).1))
    (mu := fun i => l.length - i.1) (I := fun i => i.1 ≤ l.length ∧ Inv i.2.1 i.2.2)
    (evCode (evC cprog) itLim (cIndexFunc_l0 sz ag tFunc)) ?_
  · generalize hz : itLim _ _ = z
    obtain ⟨⟨e, T', H'⟩, rfl, hH, hP⟩ := L (0, s, H) _ ⟨Nat.zero_le _, hI⟩ (by rfl) (by rfl) _ hz
    simp only [List.drop_zero] at hH hP
    split at hP
    · rename_i h1
      subst hP
      simp only [evR, Nat.reduceAdd, Nat.reduceLT, Nat.reduceLeDiff, reduceIte, Nat.reduceEqDiff, reduceCtorEq, argEnv, eq_self, if_true, if_false, h1]
      rcases gc_or H (.int .i64 (-1)) H' with h | ⟨h, ht⟩
      · exact ⟨H', by rw [h], hH⟩
      · exact ⟨H, by rw [h], htr _ _ _ _ hI hH ht⟩
    · obtain ⟨rfl, h4⟩ := hP
      simp only [evR, Nat.reduceAdd, Nat.reduceLT, Nat.reduceLeDiff, reduceIte, Nat.reduceEqDiff, reduceCtorEq, argEnv, eq_self, if_true, if_false, h4]
      rcases gc_or H (.int .i64 (runIdx p nx s l 0).1) H' with h | ⟨h, ht⟩
      · exact ⟨H', by rw [h], hH⟩
      · exact ⟨H, by rw [h], htr _ _ _ _ hI hH ht⟩
  · intro ⟨i, s, H⟩ ⟨hi, hI⟩ E hE
    simp only at hi hI hE ⊢
    have hlen := (ha s H hI).len
    by_cases hlt : i < l.length
    · obtain ⟨x, hx⟩ : ∃ x, l[i]? = some x := ⟨_, List.getElem?_eq_getElem hlt⟩
      have hm : x ∈ l := List.mem_of_getElem? hx
      have hd : l.drop i = x :: l.drop (i + 1) := by
        rw [List.drop_eq_getElem_cons hlt]
        rw [List.getElem?_eq_getElem hlt] at hx
        cases hx; rfl
      have hi1 : (i : Int) < ((l.map row).length : Int) := by rw [List.length_map]; omega
      obtain ⟨_, q, hq, hqt⟩ := (ha s H hI).get i (row x) (by rw [List.getElem?_map, hx]; rfl)
      obtain ⟨H', hc, hI'⟩ := hp x hm s H hI
      have hw : IntKind.i64.wrap ((i : Int) + 1) = ((i + 1 : Nat) : Int) := by rw [wrap_i64 (by omega) (by omega)]; rfl
      cases hpp : p s x with
      | true =>
        simp only [cIndexFunc_l0, tFunc, hE, hi1, hq, (hrow x).load hqt, hc, hpp, evR, Nat.reduceAdd, Nat.reduceLT, Nat.reduceLeDiff, reduceIte, Nat.reduceEqDiff, reduceCtorEq, argEnv, eq_self, if_true, if_false]
        refine q_ret ?_
        have e : runIdx p nx s (l.drop i) i = ((i : Int), nx s x) := by rw [hd, runIdx, if_pos hpp]
        simp only [e]
        refine ⟨hI', ?_⟩
        rw [if_neg (by omega)]
        simp [get]
      | false =>
        simp only [cIndexFunc_l0, tFunc, hE, hi1, hq, (hrow x).load hqt, hc, hpp, evR, Nat.reduceAdd, Nat.reduceLT, Nat.reduceLeDiff, reduceIte, Nat.reduceEqDiff, reduceCtorEq, argEnv, eq_self, if_true, if_false]
        have e : runIdx p nx s (l.drop i) i = runIdx p nx (nx s x) (l.drop (i + 1)) (i + 1) := by rw [hd, runIdx, if_neg (by simp [hpp])]
        refine q_next (i + 1, nx s x, H') (by simp only [hw, evR, Nat.reduceAdd, Nat.reduceLT, Nat.reduceLeDiff, reduceIte, Nat.reduceEqDiff, reduceCtorEq, argEnv, eq_self, if_true, if_false]) rfl ⟨by omega, hI'⟩ (by simp only; omega) (fun r h => ?_)
        simp only [e]
        exact h
    · have hi1 : ¬ (i : Int) < ((l.map row).length : Int) := by rw [List.length_map]; omega
      simp only [cIndexFunc_l0, hE, hi1, evR, Nat.reduceAdd, Nat.reduceLT, Nat.reduceLeDiff, reduceIte, Nat.reduceEqDiff, reduceCtorEq, argEnv, eq_self, if_true, if_false]
      refine q_exit ?_
      rw [List.drop_eq_nil_of_le (by omega)]
      exact ⟨hI, by simp [runIdx]⟩
end Go.Proofs.YtbdpceigmnpoaaaGreatDoor.Ev
