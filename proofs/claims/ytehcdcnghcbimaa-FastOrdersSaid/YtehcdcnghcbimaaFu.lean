/- The law FastSyncs is true. -/
import Derived.Test.YtehcdcnghcbimaaFt
set_option linter.unusedSimpArgs false
set_option linter.unusedVariables false
namespace Go.Proofs.Ytehcdcnghcbimaa.Code
open Go.Proofs.Ytehcdcnghcbimaa.Ev

theorem cells_tab (t : Table) : (eTab t).cells = [.int .i64 t.1, .lst (t.2.map rRow)] := rfl
theorem isTup_tab (t : Table) : (eTab t).isTup = false := rfl
theorem runIdx_inv {F : Int} (P : List Row → Prop) (hP : ∀ rows c, P rows → P (after F rows c)) : ∀ (l : List Fld) (rows : List Row) (k : Nat), P rows → P (runIdx (bad F) (after F) rows l k).2
  | [], rows, k, h => h
  | c :: l, rows, k, h => by
    rw [runIdx]
    split
    · exact hP rows c h
    · exact runIdx_inv P hP l _ _ (hP rows c h)
theorem syncs_small (F : Int) (rows : List Row) (l : List Fld) : (syncs F rows l).1.2.length < 9223372036854775807 ∧ ∀ r ∈ (syncs F rows l).1.2, r.2.length < 9223372036854775807 := by
  unfold syncs
  split
  · rename_i ha
    obtain ⟨hG, hv, hl⟩ := asked_good ha
    split
    · simp
    · have h1 := runIdx_inv (F := F) (fun r => r.length = rows.length) (fun r c h => by rw [after, length_doOne]; exact h) l rows 0 rfl
      have h2 := runIdx_inv (F := F) (fun r => GoodRows F r) (fun r c h => h.doOne c) l rows 0 hG
      refine ⟨by show (runUnit F rows l).2.length < _; unfold runUnit; omega, fun r hr => ?_⟩
      have := (h2 r hr).1
      have hv : valid (F, rows) = true := by
        cases hv : valid (F, rows) with
        | true => rfl
        | false => simp [asked, hv] at ha
      simp only [valid, Bool.and_eq_true, decide_eq_true_eq] at hv
      omega
  · simp
theorem f3 (F : Int) (rows : List Row) (hl : rows.length < 9223372036854775807) (hvl : ∀ r ∈ rows, r.2.length < 9223372036854775807) (l : List Fld) (hu : l.length < 9223372036854775807) :
    ∃ H', evC cprog 3 [.agg [.int .i64 F, .lst (rows.map rRow)], eUnit l] [] = some (.bool true, H') := by
  have h10 := fun H => f10 F rows hl _ H (.lst H rows)
  have h12 := fun H => f12 F rows hl hvl l hu H false
  have h13 := f13 F rows hl hvl l hu
  have h14 := f14 F rows hl hvl l hu
  have h15 := f15 F rows hl hvl l hu
  have h16 := fun H => f16 F rows hl hvl _ H (.lst H rows)
  have h17 := fun H => f17 F rows hl hvl _ H (.lst H rows)
  have h18 := f18 l hu
  have h19 := f19 l hu
  have h11 := f11
  have hlen := (sUnit [] l).len
  simp only [List.length_map] at hlen
  have hs2 := syncs_small F rows l
  have h20 := fun H => f20 (syncs F rows l).1.1 (syncs F rows l).1.1 (syncs F rows l).1.2 (syncs F rows l).1.2 _ _ H (.lst H _) (.lst H _) hs2.1 hs2.2
  rw [tell_pos ⟨rfl, rfl⟩] at h20
  rw [evC_fn at3]
  simp only [c3, h10, h11, h12, h13, h14, h15, h16, h17, h18, h19, h20, hlen, cells_tab, isTup_tab, beq_self_eq_true, evW, fn_eq, evR, Nat.reduceAdd, Nat.reduceLT, Nat.reduceLeDiff, reduceIte, Nat.reduceEqDiff, reduceCtorEq, argEnv, eq_self, if_true, if_false]
  repeat' (first | (rw [guardK_cases]; split <;> simp only [c3, h10, h11, h12, h13, h14, h15, h16, h17, h18, h19, h20, hlen, cells_tab, isTup_tab, beq_self_eq_true, evW, evR, Nat.reduceAdd, Nat.reduceLT, Nat.reduceLeDiff, reduceIte, Nat.reduceEqDiff, reduceCtorEq, argEnv, eq_self, if_true, if_false, *]) | (rw [condK_bool]; split <;> simp only [c3, h10, h11, h12, h13, h14, h15, h16, h17, h18, h19, h20, hlen, cells_tab, isTup_tab, beq_self_eq_true, evW, evR, Nat.reduceAdd, Nat.reduceLT, Nat.reduceLeDiff, reduceIte, Nat.reduceEqDiff, reduceCtorEq, argEnv, eq_self, if_true, if_false, *]) | (rw [guardD_cases]; split <;> simp only [c3, h10, h11, h12, h13, h14, h15, h16, h17, h18, h19, h20, hlen, cells_tab, isTup_tab, beq_self_eq_true, evW, evR, Nat.reduceAdd, Nat.reduceLT, Nat.reduceLeDiff, reduceIte, Nat.reduceEqDiff, reduceCtorEq, argEnv, eq_self, if_true, if_false, *]))
  all_goals exact ⟨_, rfl⟩
end Go.Proofs.Ytehcdcnghcbimaa.Code
namespace Go.Proofs.Ytehcdcnghcbimaa.Pure
open Go.Proofs.Ytehcdcnghcbimaa.Ev Go.Proofs.Ytehcdcnghcbimaa.Code
theorem FastSyncs (a0 : AV) (t0 : ArgTy true [.int .i64, .sl [.str, .sl [.int .i64]]] a0) (a1 : AV) (t1 : ArgTy false [.sl [.str, .int .i64, .str, .int .i64]] a1) : ∃ H', evC cprog 3 [a0, a1] [] = some (.bool true, H') := by
  obtain ⟨F, rows, rfl, h1, h2⟩ := open_table t0
  obtain ⟨l, rfl, h3⟩ := open_unit t1
  unfold reachBytes at h1 h2 h3
  exact f3 F rows (by omega) (fun r hr => by have := h2 r hr; omega) l (by omega)
end Go.Proofs.Ytehcdcnghcbimaa.Pure
