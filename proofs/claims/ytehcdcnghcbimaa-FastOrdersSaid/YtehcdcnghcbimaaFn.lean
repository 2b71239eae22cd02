/- The document's unit on a copy. -/
import Derived.Test.YtehcdcnghcbimaaFm
set_option linter.unusedSimpArgs false
set_option linter.unusedVariables false
namespace Go.Proofs.Ytehcdcnghcbimaa.Code
open Go.Proofs.Ytehcdcnghcbimaa.Ev

theorem Apart.doOne {F : Int} {rows : List Row} (h : Apart rows) (c : Fld) : Apart (doOne F rows c).2 := by
  unfold Code.doOne
  split
  · exact h
  · split
    · exact h
    · split
      · exact h
      · split
        · exact h
        · simp only [putAt]
          split
          · rename_i r hr
            have hg : ∀ (a : Nat) (x : Row) (i : Nat) (r' : Row), rows[i]? = some r → r'.1 = r.1 → (rows.set i r')[a]? = some x → ∃ y, rows[a]? = some y ∧ y.1 = x.1 := fun a x i r' hr he hx => by
              by_cases ha : a = i
              · subst ha
                rw [List.getElem?_set_self (List.getElem?_eq_some_iff.1 hr).1] at hx
                cases hx
                exact ⟨r, hr, he.symm⟩
              · rw [List.getElem?_set_ne (fun e => ha e.symm)] at hx
                exact ⟨x, hx, rfl⟩
            intro i j x y hx hy he
            obtain ⟨x', h1, h2⟩ := hg i x _ (r.1, r.2.set _ _) hr rfl hx
            obtain ⟨y', h3, h4⟩ := hg j y _ (r.1, r.2.set _ _) hr rfl hy
            exact h i j x' y' h1 h3 (by rw [h2, h4, he])
          · exact h
structure DoneInv (H0 : Heap) (N b6 : Nat) (F : Int) (rv : AV) (m : Nat) (rows : List Row) (H : Heap) : Prop where
  own : Own H0 N rv rows H
  good : GoodRows F rows
  len : rows.length = m
  apart : Apart rows
  box : H[b6]? = some ⟨0, true, 24, 2, [[.int .i64 F, rv]]⟩
theorem f57' {H0 : Heap} {N b6 : Nat} {F : Int} {rv : AV} {m : Nat} (hm : m < 9223372036854775807) (hN : N ≤ b6) {rows : List Row} {H : Heap} (hI : DoneInv H0 N b6 F rv m rows H) (c : Fld) :
    ∃ H', cal (evC cprog) false 57 [.agg [.int .i64 F, rv], .agg (rFld c)] H = some (.str (doOne F rows c).1, H') ∧ DoneInv H0 N b6 F rv m (after F rows c) H' := by
  obtain ⟨H1, h1, h2, h3⟩ := f57 hI.own (by have := hI.len; omega) (fun r hr => (hI.good r hr).1) (fun r hr => (hI.good r hr).2) hI.apart c
  exact ⟨H1, h1, h2, hI.good.doOne c, by rw [after, length_doOne]; exact hI.len, hI.apart.doOne c, by rw [h3.2 b6 hN (List.getElem?_eq_some_iff.1 hI.box).1]; exact hI.box⟩
theorem f46_loop {H0 : Heap} {N b6 b4 : Nat} {F : Int} {rv : AV} {m : Nat} (hm : m < 9223372036854775807) (hN : N ≤ b6) (hb4 : H0[b4]? = some ⟨0, true, 24, 2, [[.int .i64 0, .nils]]⟩)
    (l : List Fld) (hl : l.length < 9223372036854775807) (rows : List Row) (H : Heap) (hI : DoneInv H0 N b6 F rv m rows H) (st : St) (z : Option (CX × St))
    (hE : keepEnv st.1 [1, 4, 6, 7] = [(1, eUnit l), (4, .ptr b4 0 2 0 0), (6, .ptr b6 0 2 0 0), (7, .int .i64 0)]) (hH : st.2 = H) (hz : itLim (evCode (evC cprog) itLim c46_l0) st = z) :
    ∃ T Hc, DoneInv H0 N b6 F rv m (runUnit F rows l).2 Hc ∧ if (runUnit F rows l).1 = -1 then z = some (.exit 0, T, Hc) ∧ keepEnv T [4, 6] = [(4, .ptr b4 0 2 0 0), (6, .ptr b6 0 2 0 0)]
      else z = some (.ret, T, Hc.set b4 ⟨0, true, 24, 2, [[.int .i64 F, rv]]⟩) ∧ get T 4 = some (.ptr b4 0 2 0 0) ∧ get T 5 = some (.int .i64 (runUnit F rows l).1) := by
  have h4 := (sUnit [] l).len
  simp only [List.length_map] at h4
  have L := loop_rule (σ := Nat × List Row × Heap) (m := [1, 4, 6, 7]) (env := fun i => [(1, eUnit l), (4, .ptr b4 0 2 0 0), (6, .ptr b6 0 2 0 0), (7, .int .i64 (i.1 : Int))]) (hp := fun i => i.2.2)
    (P := fun i r => ∃ T Hc, DoneInv H0 N b6 F rv m (runIdx (bad F) (after F) i.2.1 (l.drop i.1) i.1).2 Hc ∧ if (runIdx (bad F) (after F) i.2.1 (l.drop i.1) i.1).1 = -1 then r = (.exit 0, T, Hc) ∧ keepEnv T [4, 6] = [(4, .ptr b4 0 2 0 0), (6, .ptr b6 0 2 0 0)]
      else r = (.ret, T, Hc.set b4 ⟨0, true, 24, 2, [[.int .i64 F, rv]]⟩) ∧ get T 4 = some (.ptr b4 0 2 0 0) ∧ get T 5 = some (.int .i64 (runIdx (bad F) (after F) i.2.1 (l.drop i.1) i.1).1))
    (mu := fun i => l.length - i.1) (I := fun i => i.1 ≤ l.length ∧ DoneInv H0 N b6 F rv m i.2.1 i.2.2) (evCode (evC cprog) itLim c46_l0) ?_ (0, rows, H) st ⟨Nat.zero_le _, hI⟩ hE hH z hz
  · obtain ⟨r, rfl, T, Hc, h1, h2⟩ := L
    simp only [List.drop_zero] at h1 h2
    refine ⟨T, Hc, h1, ?_⟩
    unfold runUnit
    split
    · rename_i h; rw [if_pos h] at h2; exact ⟨by rw [h2.1], h2.2⟩
    · rename_i h; rw [if_neg h] at h2; exact ⟨by rw [h2.1], h2.2⟩
  · intro ⟨i, rows, H⟩ ⟨hi, hI⟩ E hE
    simp only at hi hI hE ⊢
    by_cases hlt : i < l.length
    · obtain ⟨c, hx⟩ : ∃ c, l[i]? = some c := ⟨_, List.getElem?_eq_getElem hlt⟩
      have hd : l.drop i = c :: l.drop (i + 1) := by
        rw [List.drop_eq_getElem_cons hlt]
        rw [List.getElem?_eq_getElem hlt] at hx
        cases hx; rfl
      have hi1 : (i : Int) < (l.length : Int) := by omega
      obtain ⟨_, p, hp, hat⟩ := (sUnit H l).get i (rFld c) (by rw [List.getElem?_map, hx]; rfl)
      obtain ⟨H', hc, hI'⟩ := f57' hm hN hI c
      have hbx := hI.box
      have hbx' := hI'.box
      have hb4' : ∀ {rows Hc}, DoneInv H0 N b6 F rv m rows Hc → Hc[b4]? = some ⟨0, true, 24, 2, [[.int .i64 0, .nils]]⟩ := fun h => by
        have h1 := (List.getElem?_eq_some_iff.1 hb4).1
        rw [← h.own.pre, List.getElem?_take_of_lt h1] at hb4; exact hb4
      have h4' := hb4' hI'
      simp only [c46_l0, hE, h4, hi1, hp, hat.agg (n := 4) rfl, hbx, hbx', h4', hc, wrapS hlt hl, fn_eq, evR, Nat.reduceAdd, Nat.reduceLT, Nat.reduceLeDiff, reduceIte, Nat.reduceEqDiff, reduceCtorEq, argEnv, eq_self, if_true, if_false]
      repeat' (first | (rw [guardK_cases]; split <;> simp only [c46_l0, hE, h4, hi1, hp, hat.agg (n := 4) rfl, hbx, hbx', h4', hc, wrapS hlt hl, evR, Nat.reduceAdd, Nat.reduceLT, Nat.reduceLeDiff, reduceIte, Nat.reduceEqDiff, reduceCtorEq, argEnv, eq_self, if_true, if_false, *]) | (rw [condK_bool]; split <;> simp only [c46_l0, hE, h4, hi1, hp, hat.agg (n := 4) rfl, hbx, hbx', h4', hc, wrapS hlt hl, evR, Nat.reduceAdd, Nat.reduceLT, Nat.reduceLeDiff, reduceIte, Nat.reduceEqDiff, reduceCtorEq, argEnv, eq_self, if_true, if_false, *]))
      · rename_i h
        have hbad : bad F rows c = true := h
        have e : runIdx (bad F) (after F) rows (l.drop i) i = ((i : Int), after F rows c) := by rw [hd, runIdx, if_pos hbad]
        refine q_ret ?_
        simp only [e, if_neg (show ¬ (i : Int) = -1 by omega)]
        exact ⟨_, H', hI', rfl, by simp only [evR, Nat.reduceAdd, Nat.reduceLT, Nat.reduceLeDiff, reduceIte, Nat.reduceEqDiff, reduceCtorEq, argEnv, eq_self, if_true, if_false], by simp only [evR, Nat.reduceAdd, Nat.reduceLT, Nat.reduceLeDiff, reduceIte, Nat.reduceEqDiff, reduceCtorEq, argEnv, eq_self, if_true, if_false]⟩
      · rename_i h
        have hbad : bad F rows c = false := by
          cases hb : bad F rows c with
          | false => rfl
          | true => exact absurd hb h
        have e : runIdx (bad F) (after F) rows (l.drop i) i = runIdx (bad F) (after F) (after F rows c) (l.drop (i + 1)) (i + 1) := by rw [hd, runIdx, if_neg (by simp [hbad])]
        exact q_next (i + 1, after F rows c, H') (by rfl) rfl ⟨by omega, hI'⟩ (by simp only; omega) (fun r h => by simp only [e]; exact h)
    · have : i = l.length := by omega
      subst this
      simp only [c46_l0, hE, h4, Int.lt_irrefl, fn_eq, evR, Nat.reduceAdd, Nat.reduceLT, Nat.reduceLeDiff, reduceIte, Nat.reduceEqDiff, reduceCtorEq, argEnv, eq_self, if_true, if_false]
      repeat' (first | (rw [guardK_cases]; split <;> simp only [c46_l0, hE, h4, Int.lt_irrefl, evR, Nat.reduceAdd, Nat.reduceLT, Nat.reduceLeDiff, reduceIte, Nat.reduceEqDiff, reduceCtorEq, argEnv, eq_self, if_true, if_false, *]) | (rw [condK_bool]; split <;> simp only [c46_l0, hE, h4, Int.lt_irrefl, evR, Nat.reduceAdd, Nat.reduceLT, Nat.reduceLeDiff, reduceIte, Nat.reduceEqDiff, reduceCtorEq, argEnv, eq_self, if_true, if_false, *]))
      refine q_exit ?_
      have e0 : runIdx (bad F) (after F) rows [] l.length = (-1, rows) := rfl
      simp only [List.drop_length, e0, if_true]
      exact ⟨_, H, hI, rfl, by rfl⟩
end Go.Proofs.Ytehcdcnghcbimaa.Code
