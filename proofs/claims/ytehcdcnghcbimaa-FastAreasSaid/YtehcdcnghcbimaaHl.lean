/- The law FastAreas. -/
import Derived.Test.YtehcdcnghcbimaaHk
import Derived.Test.YtehcdcnghcbimaaGn
set_option linter.unusedSimpArgs false
set_option linter.unusedVariables false
namespace Go.Proofs.Ytehcdcnghcbimaa.Code
open Go.Proofs.Ytehcdcnghcbimaa.Ev Go.RowKit

structure Ac where
  d : Int
  i : Int
  n : Int
  s : ByteArray
def rAc (x : Ac) : List AV := [.int .u8 x.d, .int .i64 x.i, .int .i64 x.n, .str x.s]
def eAcs (l : List Ac) : AV := .lst (l.map rAc)
theorem sAcs (H : Heap) (l : List Ac) : SlAt H 4 (eAcs l) (l.map rAc) := .lst fun r hr => by obtain ⟨n, _, rfl⟩ := List.mem_map.1 hr; rfl
theorem l8_0 {H : Heap} {ba bx nb : Nat} {cs : List (List Bk)} (l : List Ac) (hl : l.length < 9223372036854775807) (P0 P1 : AV) (h : Two H ba bx nb cs) (st : St)
    (hE : keepEnv st.1 [0, 1, 2, 7, 9, 11] = [(0, P0), (1, P1), (2, eAcs l), (7, .ptr ba 0 1 0 0), (9, .ptr bx 0 1 0 0), (11, .int .i64 0)]) (hH : st.2 = H) (z : Option (CX × St)) (hz : itLim (evCode (evC cprog) itLim c8_l0) st = z) :
    ∃ T H' cs', z = some (.exit 0, T, H') ∧ keepEnv T [0, 1, 7, 9] = [(0, P0), (1, P1), (7, .ptr ba 0 1 0 0), (9, .ptr bx 0 1 0 0)] ∧ Two H' ba bx nb cs' := by
  have L := loop_rule (σ := Nat × Heap × List (List Bk)) (m := [0, 1, 2, 7, 9, 11]) (env := fun k => [(0, P0), (1, P1), (2, eAcs l), (7, .ptr ba 0 1 0 0), (9, .ptr bx 0 1 0 0), (11, .int .i64 (k.1 : Int))]) (hp := fun k => k.2.1)
    (P := fun _ r => ∃ T H' cs', r = (.exit 0, T, H') ∧ keepEnv T [0, 1, 7, 9] = [(0, P0), (1, P1), (7, .ptr ba 0 1 0 0), (9, .ptr bx 0 1 0 0)] ∧ Two H' ba bx nb cs')
    (mu := fun k => l.length - k.1) (I := fun k => k.1 ≤ l.length ∧ Two k.2.1 ba bx nb k.2.2) (evCode (evC cprog) itLim c8_l0) ?_ (0, H, cs) st ⟨Nat.zero_le _, h⟩ hE hH z hz
  · obtain ⟨r, rfl, T, H', cs', rfl, h1⟩ := L
    exact ⟨T, H', cs', rfl, h1⟩
  · intro ⟨k, Hc, c⟩ ⟨hk, hI⟩ E hE
    simp only at hk hI hE ⊢
    have hln := (sAcs Hc l).len
    simp only [List.length_map] at hln
    by_cases hlt : k < l.length
    · have hi : (k : Int) < (l.length : Int) := by omega
      obtain ⟨x, hx⟩ : ∃ x, l[k]? = some x := ⟨_, List.getElem?_eq_getElem hlt⟩
      obtain ⟨_, p, hp, hat⟩ := (sAcs Hc l).get k (rAc x) (by rw [List.getElem?_map, hx]; rfl)
      have hqa := hat.agg (n := 4) rfl
      have hwr := wrapS hlt hl
      by_cases e0 : x.d.tmod 5 = 0
      · obtain ⟨r1, r2⟩ := (hI.app [⟨0, true, 63, 4, [rAc x]⟩]).reads x.n
        simp only [rAc] at r1 r2
        simp only [c8_l0, hE, hln, hi, hp, hqa, rAc, e0, r1, r2, beq_self_eq_true, hwr, evX, Int.reduceEq, Int.reduceLT, Int.reduceLE, Nat.reduceMul, Nat.reduceMod, evW, fn_eq, evR, Nat.reduceAdd, Nat.reduceLT, Nat.reduceLeDiff, reduceIte, Nat.reduceEqDiff, reduceCtorEq, argEnv, eq_self, if_true, if_false]
        repeat' (first | (rw [guardK_cases]; split <;> simp only [c8_l0, hE, hln, hi, hp, hqa, rAc, e0, r1, r2, beq_self_eq_true, hwr, evX, Int.reduceEq, Int.reduceLT, Int.reduceLE, Nat.reduceMul, Nat.reduceMod, evW, evR, Nat.reduceAdd, Nat.reduceLT, Nat.reduceLeDiff, reduceIte, Nat.reduceEqDiff, reduceCtorEq, argEnv, eq_self, if_true, if_false, *]) | (rw [condK_bool]; split <;> simp only [c8_l0, hE, hln, hi, hp, hqa, rAc, e0, r1, r2, beq_self_eq_true, hwr, evX, Int.reduceEq, Int.reduceLT, Int.reduceLE, Nat.reduceMul, Nat.reduceMod, evW, evR, Nat.reduceAdd, Nat.reduceLT, Nat.reduceLeDiff, reduceIte, Nat.reduceEqDiff, reduceCtorEq, argEnv, eq_self, if_true, if_false, *]) | (rw [guardD_cases]; split <;> simp only [c8_l0, hE, hln, hi, hp, hqa, rAc, e0, r1, r2, beq_self_eq_true, hwr, evX, Int.reduceEq, Int.reduceLT, Int.reduceLE, Nat.reduceMul, Nat.reduceMod, evW, evR, Nat.reduceAdd, Nat.reduceLT, Nat.reduceLeDiff, reduceIte, Nat.reduceEqDiff, reduceCtorEq, argEnv, eq_self, if_true, if_false, *]))
        exact q_next (k + 1, _, c) (by rfl) rfl ⟨by omega, hI.app _⟩ (by simp only; omega) fun r hP => hP
      by_cases e1 : x.d.tmod 5 = 1
      · obtain ⟨H1, H2, r1, b1, r2, b2, hI'⟩ := hI.writes ⟨0, true, 63, 4, [rAc x]⟩ x.n x.s
        simp only [rAc] at r1 r2 b1 b2
        simp only [c8_l0, hE, hln, hi, hp, hqa, rAc, e0, e1, r1, b1, r2, b2, beq_self_eq_true, hwr, evX, Int.reduceEq, Int.reduceLT, Int.reduceLE, Nat.reduceMul, Nat.reduceMod, evW, fn_eq, evR, Nat.reduceAdd, Nat.reduceLT, Nat.reduceLeDiff, reduceIte, Nat.reduceEqDiff, reduceCtorEq, argEnv, eq_self, if_true, if_false]
        repeat' (first | (rw [guardK_cases]; split <;> simp only [c8_l0, hE, hln, hi, hp, hqa, rAc, e0, e1, r1, b1, r2, b2, beq_self_eq_true, hwr, evX, Int.reduceEq, Int.reduceLT, Int.reduceLE, Nat.reduceMul, Nat.reduceMod, evW, evR, Nat.reduceAdd, Nat.reduceLT, Nat.reduceLeDiff, reduceIte, Nat.reduceEqDiff, reduceCtorEq, argEnv, eq_self, if_true, if_false, *]) | (rw [condK_bool]; split <;> simp only [c8_l0, hE, hln, hi, hp, hqa, rAc, e0, e1, r1, b1, r2, b2, beq_self_eq_true, hwr, evX, Int.reduceEq, Int.reduceLT, Int.reduceLE, Nat.reduceMul, Nat.reduceMod, evW, evR, Nat.reduceAdd, Nat.reduceLT, Nat.reduceLeDiff, reduceIte, Nat.reduceEqDiff, reduceCtorEq, argEnv, eq_self, if_true, if_false, *]) | (rw [guardD_cases]; split <;> simp only [c8_l0, hE, hln, hi, hp, hqa, rAc, e0, e1, r1, b1, r2, b2, beq_self_eq_true, hwr, evX, Int.reduceEq, Int.reduceLT, Int.reduceLE, Nat.reduceMul, Nat.reduceMod, evW, evR, Nat.reduceAdd, Nat.reduceLT, Nat.reduceLeDiff, reduceIte, Nat.reduceEqDiff, reduceCtorEq, argEnv, eq_self, if_true, if_false, *]))
        exact q_next (k + 1, H2, _) (by rfl) rfl ⟨by omega, hI'⟩ (by simp only; omega) fun r hP => hP
      by_cases e2 : x.d.tmod 5 = 2
      · obtain ⟨H1, H2, r1, b1, r2, b2, hI'⟩ := hI.bads ⟨0, true, 63, 4, [rAc x]⟩ x.i x.n
        simp only [rAc] at r1 r2 b1 b2
        simp only [c8_l0, hE, hln, hi, hp, hqa, rAc, e0, e1, e2, r1, b1, r2, b2, beq_self_eq_true, hwr, evX, Int.reduceEq, Int.reduceLT, Int.reduceLE, Nat.reduceMul, Nat.reduceMod, evW, fn_eq, evR, Nat.reduceAdd, Nat.reduceLT, Nat.reduceLeDiff, reduceIte, Nat.reduceEqDiff, reduceCtorEq, argEnv, eq_self, if_true, if_false]
        repeat' (first | (rw [guardK_cases]; split <;> simp only [c8_l0, hE, hln, hi, hp, hqa, rAc, e0, e1, e2, r1, b1, r2, b2, beq_self_eq_true, hwr, evX, Int.reduceEq, Int.reduceLT, Int.reduceLE, Nat.reduceMul, Nat.reduceMod, evW, evR, Nat.reduceAdd, Nat.reduceLT, Nat.reduceLeDiff, reduceIte, Nat.reduceEqDiff, reduceCtorEq, argEnv, eq_self, if_true, if_false, *]) | (rw [condK_bool]; split <;> simp only [c8_l0, hE, hln, hi, hp, hqa, rAc, e0, e1, e2, r1, b1, r2, b2, beq_self_eq_true, hwr, evX, Int.reduceEq, Int.reduceLT, Int.reduceLE, Nat.reduceMul, Nat.reduceMod, evW, evR, Nat.reduceAdd, Nat.reduceLT, Nat.reduceLeDiff, reduceIte, Nat.reduceEqDiff, reduceCtorEq, argEnv, eq_self, if_true, if_false, *]) | (rw [guardD_cases]; split <;> simp only [c8_l0, hE, hln, hi, hp, hqa, rAc, e0, e1, e2, r1, b1, r2, b2, beq_self_eq_true, hwr, evX, Int.reduceEq, Int.reduceLT, Int.reduceLE, Nat.reduceMul, Nat.reduceMod, evW, evR, Nat.reduceAdd, Nat.reduceLT, Nat.reduceLeDiff, reduceIte, Nat.reduceEqDiff, reduceCtorEq, argEnv, eq_self, if_true, if_false, *]))
        exact q_next (k + 1, H2, _) (by rfl) rfl ⟨by omega, hI'⟩ (by simp only; omega) fun r hP => hP
      by_cases e3 : x.d.tmod 5 = 3
      · obtain ⟨H1, H2, r1, b1, r2, b2, hI'⟩ := hI.repairsB ⟨0, true, 63, 4, [rAc x]⟩ x.i
        simp only [rAc] at r1 r2 b1 b2
        simp only [c8_l0, hE, hln, hi, hp, hqa, rAc, e0, e1, e2, e3, r1, b1, r2, b2, beq_self_eq_true, hwr, evX, Int.reduceEq, Int.reduceLT, Int.reduceLE, Nat.reduceMul, Nat.reduceMod, evW, fn_eq, evR, Nat.reduceAdd, Nat.reduceLT, Nat.reduceLeDiff, reduceIte, Nat.reduceEqDiff, reduceCtorEq, argEnv, eq_self, if_true, if_false]
        repeat' (first | (rw [guardK_cases]; split <;> simp only [c8_l0, hE, hln, hi, hp, hqa, rAc, e0, e1, e2, e3, r1, b1, r2, b2, beq_self_eq_true, hwr, evX, Int.reduceEq, Int.reduceLT, Int.reduceLE, Nat.reduceMul, Nat.reduceMod, evW, evR, Nat.reduceAdd, Nat.reduceLT, Nat.reduceLeDiff, reduceIte, Nat.reduceEqDiff, reduceCtorEq, argEnv, eq_self, if_true, if_false, *]) | (rw [condK_bool]; split <;> simp only [c8_l0, hE, hln, hi, hp, hqa, rAc, e0, e1, e2, e3, r1, b1, r2, b2, beq_self_eq_true, hwr, evX, Int.reduceEq, Int.reduceLT, Int.reduceLE, Nat.reduceMul, Nat.reduceMod, evW, evR, Nat.reduceAdd, Nat.reduceLT, Nat.reduceLeDiff, reduceIte, Nat.reduceEqDiff, reduceCtorEq, argEnv, eq_self, if_true, if_false, *]) | (rw [guardD_cases]; split <;> simp only [c8_l0, hE, hln, hi, hp, hqa, rAc, e0, e1, e2, e3, r1, b1, r2, b2, beq_self_eq_true, hwr, evX, Int.reduceEq, Int.reduceLT, Int.reduceLE, Nat.reduceMul, Nat.reduceMod, evW, evR, Nat.reduceAdd, Nat.reduceLT, Nat.reduceLeDiff, reduceIte, Nat.reduceEqDiff, reduceCtorEq, argEnv, eq_self, if_true, if_false, *]))
        exact q_next (k + 1, H2, _) (by rfl) rfl ⟨by omega, hI'⟩ (by simp only; omega) fun r hP => hP
      · obtain ⟨r1, r2⟩ := (hI.app [⟨0, true, 63, 4, [rAc x]⟩]).lefts x.n
        simp only [rAc] at r1 r2
        simp only [c8_l0, hE, hln, hi, hp, hqa, rAc, e0, e1, e2, e3, r1, r2, beq_self_eq_true, hwr, evX, Int.reduceEq, Int.reduceLT, Int.reduceLE, Nat.reduceMul, Nat.reduceMod, evW, fn_eq, evR, Nat.reduceAdd, Nat.reduceLT, Nat.reduceLeDiff, reduceIte, Nat.reduceEqDiff, reduceCtorEq, argEnv, eq_self, if_true, if_false]
        repeat' (first | (rw [guardK_cases]; split <;> simp only [c8_l0, hE, hln, hi, hp, hqa, rAc, e0, e1, e2, e3, r1, r2, beq_self_eq_true, hwr, evX, Int.reduceEq, Int.reduceLT, Int.reduceLE, Nat.reduceMul, Nat.reduceMod, evW, evR, Nat.reduceAdd, Nat.reduceLT, Nat.reduceLeDiff, reduceIte, Nat.reduceEqDiff, reduceCtorEq, argEnv, eq_self, if_true, if_false, *]) | (rw [condK_bool]; split <;> simp only [c8_l0, hE, hln, hi, hp, hqa, rAc, e0, e1, e2, e3, r1, r2, beq_self_eq_true, hwr, evX, Int.reduceEq, Int.reduceLT, Int.reduceLE, Nat.reduceMul, Nat.reduceMod, evW, evR, Nat.reduceAdd, Nat.reduceLT, Nat.reduceLeDiff, reduceIte, Nat.reduceEqDiff, reduceCtorEq, argEnv, eq_self, if_true, if_false, *]) | (rw [guardD_cases]; split <;> simp only [c8_l0, hE, hln, hi, hp, hqa, rAc, e0, e1, e2, e3, r1, r2, beq_self_eq_true, hwr, evX, Int.reduceEq, Int.reduceLT, Int.reduceLE, Nat.reduceMul, Nat.reduceMod, evW, evR, Nat.reduceAdd, Nat.reduceLT, Nat.reduceLeDiff, reduceIte, Nat.reduceEqDiff, reduceCtorEq, argEnv, eq_self, if_true, if_false, *]))
        exact q_next (k + 1, _, c) (by rfl) rfl ⟨by omega, hI.app _⟩ (by simp only; omega) fun r hP => hP
    · have : k = l.length := by omega
      subst this
      simp only [c8_l0, hE, hln, Int.lt_irrefl, evX, Int.reduceEq, Int.reduceLT, Int.reduceLE, Nat.reduceMul, Nat.reduceMod, evW, fn_eq, evR, Nat.reduceAdd, Nat.reduceLT, Nat.reduceLeDiff, reduceIte, Nat.reduceEqDiff, reduceCtorEq, argEnv, eq_self, if_true, if_false]
      repeat' (first | (rw [guardK_cases]; split <;> simp only [c8_l0, hE, hln, Int.lt_irrefl, evX, Int.reduceEq, Int.reduceLT, Int.reduceLE, Nat.reduceMul, Nat.reduceMod, evW, evR, Nat.reduceAdd, Nat.reduceLT, Nat.reduceLeDiff, reduceIte, Nat.reduceEqDiff, reduceCtorEq, argEnv, eq_self, if_true, if_false, *]) | (rw [condK_bool]; split <;> simp only [c8_l0, hE, hln, Int.lt_irrefl, evX, Int.reduceEq, Int.reduceLT, Int.reduceLE, Nat.reduceMul, Nat.reduceMod, evW, evR, Nat.reduceAdd, Nat.reduceLT, Nat.reduceLeDiff, reduceIte, Nat.reduceEqDiff, reduceCtorEq, argEnv, eq_self, if_true, if_false, *]) | (rw [guardD_cases]; split <;> simp only [c8_l0, hE, hln, Int.lt_irrefl, evX, Int.reduceEq, Int.reduceLT, Int.reduceLE, Nat.reduceMul, Nat.reduceMod, evW, evR, Nat.reduceAdd, Nat.reduceLT, Nat.reduceLeDiff, reduceIte, Nat.reduceEqDiff, reduceCtorEq, argEnv, eq_self, if_true, if_false, *]))
      exact q_exit ⟨_, Hc, c, rfl, by rfl, hI⟩
theorem f30_no (k b : Int) (h : ¬ newOk k b) (H : Heap) : cal (evC cprog) false 30 [.int .i64 k, .int .i64 b] H = some (.tup [.nilptr, .int .i64 2], H) := by
  rw [cal_of at30]
  unfold newOk at h
  by_cases g1 : k < 2
  · simp only [c30, g1, evX, Int.reduceEq, Int.reduceLT, Int.reduceLE, Nat.reduceMul, Nat.reduceMod, evW, fn_eq, evR, Nat.reduceAdd, Nat.reduceLT, Nat.reduceLeDiff, reduceIte, Nat.reduceEqDiff, reduceCtorEq, argEnv, eq_self, if_true, if_false]
    repeat' (first | (rw [guardK_cases]; split <;> simp only [c30, g1, evX, Int.reduceEq, Int.reduceLT, Int.reduceLE, Nat.reduceMul, Nat.reduceMod, evW, evR, Nat.reduceAdd, Nat.reduceLT, Nat.reduceLeDiff, reduceIte, Nat.reduceEqDiff, reduceCtorEq, argEnv, eq_self, if_true, if_false, *]) | (rw [condK_bool]; split <;> simp only [c30, g1, evX, Int.reduceEq, Int.reduceLT, Int.reduceLE, Nat.reduceMul, Nat.reduceMod, evW, evR, Nat.reduceAdd, Nat.reduceLT, Nat.reduceLeDiff, reduceIte, Nat.reduceEqDiff, reduceCtorEq, argEnv, eq_self, if_true, if_false, *]) | (rw [guardD_cases]; split <;> simp only [c30, g1, evX, Int.reduceEq, Int.reduceLT, Int.reduceLE, Nat.reduceMul, Nat.reduceMod, evW, evR, Nat.reduceAdd, Nat.reduceLT, Nat.reduceLeDiff, reduceIte, Nat.reduceEqDiff, reduceCtorEq, argEnv, eq_self, if_true, if_false, *]))
  by_cases g2 : 3 < k
  · simp only [c30, g1, g2, evX, Int.reduceEq, Int.reduceLT, Int.reduceLE, Nat.reduceMul, Nat.reduceMod, evW, fn_eq, evR, Nat.reduceAdd, Nat.reduceLT, Nat.reduceLeDiff, reduceIte, Nat.reduceEqDiff, reduceCtorEq, argEnv, eq_self, if_true, if_false]
    repeat' (first | (rw [guardK_cases]; split <;> simp only [c30, g1, g2, evX, Int.reduceEq, Int.reduceLT, Int.reduceLE, Nat.reduceMul, Nat.reduceMod, evW, evR, Nat.reduceAdd, Nat.reduceLT, Nat.reduceLeDiff, reduceIte, Nat.reduceEqDiff, reduceCtorEq, argEnv, eq_self, if_true, if_false, *]) | (rw [condK_bool]; split <;> simp only [c30, g1, g2, evX, Int.reduceEq, Int.reduceLT, Int.reduceLE, Nat.reduceMul, Nat.reduceMod, evW, evR, Nat.reduceAdd, Nat.reduceLT, Nat.reduceLeDiff, reduceIte, Nat.reduceEqDiff, reduceCtorEq, argEnv, eq_self, if_true, if_false, *]) | (rw [guardD_cases]; split <;> simp only [c30, g1, g2, evX, Int.reduceEq, Int.reduceLT, Int.reduceLE, Nat.reduceMul, Nat.reduceMod, evW, evR, Nat.reduceAdd, Nat.reduceLT, Nat.reduceLeDiff, reduceIte, Nat.reduceEqDiff, reduceCtorEq, argEnv, eq_self, if_true, if_false, *]))
  by_cases g3 : b < 1
  · simp only [c30, g1, g2, g3, evX, Int.reduceEq, Int.reduceLT, Int.reduceLE, Nat.reduceMul, Nat.reduceMod, evW, fn_eq, evR, Nat.reduceAdd, Nat.reduceLT, Nat.reduceLeDiff, reduceIte, Nat.reduceEqDiff, reduceCtorEq, argEnv, eq_self, if_true, if_false]
    repeat' (first | (rw [guardK_cases]; split <;> simp only [c30, g1, g2, g3, evX, Int.reduceEq, Int.reduceLT, Int.reduceLE, Nat.reduceMul, Nat.reduceMod, evW, evR, Nat.reduceAdd, Nat.reduceLT, Nat.reduceLeDiff, reduceIte, Nat.reduceEqDiff, reduceCtorEq, argEnv, eq_self, if_true, if_false, *]) | (rw [condK_bool]; split <;> simp only [c30, g1, g2, g3, evX, Int.reduceEq, Int.reduceLT, Int.reduceLE, Nat.reduceMul, Nat.reduceMod, evW, evR, Nat.reduceAdd, Nat.reduceLT, Nat.reduceLeDiff, reduceIte, Nat.reduceEqDiff, reduceCtorEq, argEnv, eq_self, if_true, if_false, *]) | (rw [guardD_cases]; split <;> simp only [c30, g1, g2, g3, evX, Int.reduceEq, Int.reduceLT, Int.reduceLE, Nat.reduceMul, Nat.reduceMod, evW, evR, Nat.reduceAdd, Nat.reduceLT, Nat.reduceLeDiff, reduceIte, Nat.reduceEqDiff, reduceCtorEq, argEnv, eq_self, if_true, if_false, *]))
  · have g4 : 8 < b := by omega
    simp only [c30, g1, g2, g3, g4, evX, Int.reduceEq, Int.reduceLT, Int.reduceLE, Nat.reduceMul, Nat.reduceMod, evW, fn_eq, evR, Nat.reduceAdd, Nat.reduceLT, Nat.reduceLeDiff, reduceIte, Nat.reduceEqDiff, reduceCtorEq, argEnv, eq_self, if_true, if_false]
    repeat' (first | (rw [guardK_cases]; split <;> simp only [c30, g1, g2, g3, g4, evX, Int.reduceEq, Int.reduceLT, Int.reduceLE, Nat.reduceMul, Nat.reduceMod, evW, evR, Nat.reduceAdd, Nat.reduceLT, Nat.reduceLeDiff, reduceIte, Nat.reduceEqDiff, reduceCtorEq, argEnv, eq_self, if_true, if_false, *]) | (rw [condK_bool]; split <;> simp only [c30, g1, g2, g3, g4, evX, Int.reduceEq, Int.reduceLT, Int.reduceLE, Nat.reduceMul, Nat.reduceMod, evW, evR, Nat.reduceAdd, Nat.reduceLT, Nat.reduceLeDiff, reduceIte, Nat.reduceEqDiff, reduceCtorEq, argEnv, eq_self, if_true, if_false, *]) | (rw [guardD_cases]; split <;> simp only [c30, g1, g2, g3, g4, evX, Int.reduceEq, Int.reduceLT, Int.reduceLE, Nat.reduceMul, Nat.reduceMod, evW, evR, Nat.reduceAdd, Nat.reduceLT, Nat.reduceLeDiff, reduceIte, Nat.reduceEqDiff, reduceCtorEq, argEnv, eq_self, if_true, if_false, *]))
theorem f31_no (k b : Int) (h : ¬ newOk k b) (H : Heap) : cal (evC cprog) false 31 [.int .i64 k, .int .i64 b] H = some (.tup [.nilptr, .int .i64 2], H) := by
  rw [cal_of at31]
  unfold newOk at h
  by_cases g1 : k < 2
  · simp only [c31, g1, evX, Int.reduceEq, Int.reduceLT, Int.reduceLE, Nat.reduceMul, Nat.reduceMod, evW, fn_eq, evR, Nat.reduceAdd, Nat.reduceLT, Nat.reduceLeDiff, reduceIte, Nat.reduceEqDiff, reduceCtorEq, argEnv, eq_self, if_true, if_false]
    repeat' (first | (rw [guardK_cases]; split <;> simp only [c31, g1, evX, Int.reduceEq, Int.reduceLT, Int.reduceLE, Nat.reduceMul, Nat.reduceMod, evW, evR, Nat.reduceAdd, Nat.reduceLT, Nat.reduceLeDiff, reduceIte, Nat.reduceEqDiff, reduceCtorEq, argEnv, eq_self, if_true, if_false, *]) | (rw [condK_bool]; split <;> simp only [c31, g1, evX, Int.reduceEq, Int.reduceLT, Int.reduceLE, Nat.reduceMul, Nat.reduceMod, evW, evR, Nat.reduceAdd, Nat.reduceLT, Nat.reduceLeDiff, reduceIte, Nat.reduceEqDiff, reduceCtorEq, argEnv, eq_self, if_true, if_false, *]) | (rw [guardD_cases]; split <;> simp only [c31, g1, evX, Int.reduceEq, Int.reduceLT, Int.reduceLE, Nat.reduceMul, Nat.reduceMod, evW, evR, Nat.reduceAdd, Nat.reduceLT, Nat.reduceLeDiff, reduceIte, Nat.reduceEqDiff, reduceCtorEq, argEnv, eq_self, if_true, if_false, *]))
  by_cases g2 : 3 < k
  · simp only [c31, g1, g2, evX, Int.reduceEq, Int.reduceLT, Int.reduceLE, Nat.reduceMul, Nat.reduceMod, evW, fn_eq, evR, Nat.reduceAdd, Nat.reduceLT, Nat.reduceLeDiff, reduceIte, Nat.reduceEqDiff, reduceCtorEq, argEnv, eq_self, if_true, if_false]
    repeat' (first | (rw [guardK_cases]; split <;> simp only [c31, g1, g2, evX, Int.reduceEq, Int.reduceLT, Int.reduceLE, Nat.reduceMul, Nat.reduceMod, evW, evR, Nat.reduceAdd, Nat.reduceLT, Nat.reduceLeDiff, reduceIte, Nat.reduceEqDiff, reduceCtorEq, argEnv, eq_self, if_true, if_false, *]) | (rw [condK_bool]; split <;> simp only [c31, g1, g2, evX, Int.reduceEq, Int.reduceLT, Int.reduceLE, Nat.reduceMul, Nat.reduceMod, evW, evR, Nat.reduceAdd, Nat.reduceLT, Nat.reduceLeDiff, reduceIte, Nat.reduceEqDiff, reduceCtorEq, argEnv, eq_self, if_true, if_false, *]) | (rw [guardD_cases]; split <;> simp only [c31, g1, g2, evX, Int.reduceEq, Int.reduceLT, Int.reduceLE, Nat.reduceMul, Nat.reduceMod, evW, evR, Nat.reduceAdd, Nat.reduceLT, Nat.reduceLeDiff, reduceIte, Nat.reduceEqDiff, reduceCtorEq, argEnv, eq_self, if_true, if_false, *]))
  by_cases g3 : b < 1
  · simp only [c31, g1, g2, g3, evX, Int.reduceEq, Int.reduceLT, Int.reduceLE, Nat.reduceMul, Nat.reduceMod, evW, fn_eq, evR, Nat.reduceAdd, Nat.reduceLT, Nat.reduceLeDiff, reduceIte, Nat.reduceEqDiff, reduceCtorEq, argEnv, eq_self, if_true, if_false]
    repeat' (first | (rw [guardK_cases]; split <;> simp only [c31, g1, g2, g3, evX, Int.reduceEq, Int.reduceLT, Int.reduceLE, Nat.reduceMul, Nat.reduceMod, evW, evR, Nat.reduceAdd, Nat.reduceLT, Nat.reduceLeDiff, reduceIte, Nat.reduceEqDiff, reduceCtorEq, argEnv, eq_self, if_true, if_false, *]) | (rw [condK_bool]; split <;> simp only [c31, g1, g2, g3, evX, Int.reduceEq, Int.reduceLT, Int.reduceLE, Nat.reduceMul, Nat.reduceMod, evW, evR, Nat.reduceAdd, Nat.reduceLT, Nat.reduceLeDiff, reduceIte, Nat.reduceEqDiff, reduceCtorEq, argEnv, eq_self, if_true, if_false, *]) | (rw [guardD_cases]; split <;> simp only [c31, g1, g2, g3, evX, Int.reduceEq, Int.reduceLT, Int.reduceLE, Nat.reduceMul, Nat.reduceMod, evW, evR, Nat.reduceAdd, Nat.reduceLT, Nat.reduceLeDiff, reduceIte, Nat.reduceEqDiff, reduceCtorEq, argEnv, eq_self, if_true, if_false, *]))
  · have g4 : 8 < b := by omega
    simp only [c31, g1, g2, g3, g4, evX, Int.reduceEq, Int.reduceLT, Int.reduceLE, Nat.reduceMul, Nat.reduceMod, evW, fn_eq, evR, Nat.reduceAdd, Nat.reduceLT, Nat.reduceLeDiff, reduceIte, Nat.reduceEqDiff, reduceCtorEq, argEnv, eq_self, if_true, if_false]
    repeat' (first | (rw [guardK_cases]; split <;> simp only [c31, g1, g2, g3, g4, evX, Int.reduceEq, Int.reduceLT, Int.reduceLE, Nat.reduceMul, Nat.reduceMod, evW, evR, Nat.reduceAdd, Nat.reduceLT, Nat.reduceLeDiff, reduceIte, Nat.reduceEqDiff, reduceCtorEq, argEnv, eq_self, if_true, if_false, *]) | (rw [condK_bool]; split <;> simp only [c31, g1, g2, g3, g4, evX, Int.reduceEq, Int.reduceLT, Int.reduceLE, Nat.reduceMul, Nat.reduceMod, evW, evR, Nat.reduceAdd, Nat.reduceLT, Nat.reduceLeDiff, reduceIte, Nat.reduceEqDiff, reduceCtorEq, argEnv, eq_self, if_true, if_false, *]) | (rw [guardD_cases]; split <;> simp only [c31, g1, g2, g3, g4, evX, Int.reduceEq, Int.reduceLT, Int.reduceLE, Nat.reduceMul, Nat.reduceMod, evW, evR, Nat.reduceAdd, Nat.reduceLT, Nat.reduceLeDiff, reduceIte, Nat.reduceEqDiff, reduceCtorEq, argEnv, eq_self, if_true, if_false, *]))
theorem f8 (k b : Int) (l : List Ac) (hl : l.length < 9223372036854775807) (H : Heap) : ∃ H', evFn (evC cprog) itLim c8 [.int .i64 k, .int .i64 b, eAcs l] H = some (.bool true, H') := by
  have hln := (sAcs H l).len
  simp only [List.length_map] at hln
  by_cases h40 : 40 < (l.length : Int)
  · simp only [c8, hln, h40, f11, evX, Int.reduceEq, Int.reduceLT, Int.reduceLE, Nat.reduceMul, Nat.reduceMod, evW, fn_eq, evR, Nat.reduceAdd, Nat.reduceLT, Nat.reduceLeDiff, reduceIte, Nat.reduceEqDiff, reduceCtorEq, argEnv, eq_self, if_true, if_false]
    repeat' (first | (rw [guardK_cases]; split <;> simp only [c8, hln, h40, f11, evX, Int.reduceEq, Int.reduceLT, Int.reduceLE, Nat.reduceMul, Nat.reduceMod, evW, evR, Nat.reduceAdd, Nat.reduceLT, Nat.reduceLeDiff, reduceIte, Nat.reduceEqDiff, reduceCtorEq, argEnv, eq_self, if_true, if_false, *]) | (rw [condK_bool]; split <;> simp only [c8, hln, h40, f11, evX, Int.reduceEq, Int.reduceLT, Int.reduceLE, Nat.reduceMul, Nat.reduceMod, evW, evR, Nat.reduceAdd, Nat.reduceLT, Nat.reduceLeDiff, reduceIte, Nat.reduceEqDiff, reduceCtorEq, argEnv, eq_self, if_true, if_false, *]) | (rw [guardD_cases]; split <;> simp only [c8, hln, h40, f11, evX, Int.reduceEq, Int.reduceLT, Int.reduceLE, Nat.reduceMul, Nat.reduceMod, evW, evR, Nat.reduceAdd, Nat.reduceLT, Nat.reduceLeDiff, reduceIte, Nat.reduceEqDiff, reduceCtorEq, argEnv, eq_self, if_true, if_false, *]))
    exact ⟨_, rfl⟩
  by_cases hk : newOk k b
  · obtain ⟨X, bc, vc, ws, nb, cs, rfl, hc, h30, hA, hrep, hge⟩ := f30 k b hk H
    obtain ⟨Y, dc, wc, us, nb', cs', hnb, hc', h31, hB, hrep', hge'⟩ := f31 k (nb : Int) hk (H ++ X)
    have hnn : nb = nb' := by omega
    subst hnn
    have hcc : cs' = cs := by
      have : cs'.length = cs.length := by omega
      rw [hrep, hrep', this]
    subst hcc
    have hA' := hA.app Y
    rw [List.append_assoc] at hA' hB
    rw [List.length_append] at hB hge' h31
    have hT : Two (H ++ (X ++ Y)) H.length (H.length + X.length) nb cs' := ⟨bc, vc, ws, dc, wc, us, hA', hB, fun g hg hf => by
      have h1 := hA.lt g hg
      have h2 := hge' g hf
      rw [List.length_append] at h1
      omega⟩
    rw [List.append_assoc] at h31
    obtain ⟨m, rfl⟩ : ∃ m : Nat, k = m := ⟨cs'.length, hc.symm⟩
    have hm : m < 10 := by have := hk.2.1; omega
    have hp1 := eqn_pn
    simp only [c8, hln, h40, h30, h31, hp1, p_eqn, beq_self_eq_true, evX, Int.reduceEq, Int.reduceLT, Int.reduceLE, Nat.reduceMul, Nat.reduceMod, evW, fn_eq, evR, Nat.reduceAdd, Nat.reduceLT, Nat.reduceLeDiff, reduceIte, Nat.reduceEqDiff, reduceCtorEq, argEnv, eq_self, if_true, if_false]
    repeat' (first | (rw [guardK_cases]; split <;> simp only [c8, hln, h40, h30, h31, hp1, p_eqn, beq_self_eq_true, evX, Int.reduceEq, Int.reduceLT, Int.reduceLE, Nat.reduceMul, Nat.reduceMod, evW, evR, Nat.reduceAdd, Nat.reduceLT, Nat.reduceLeDiff, reduceIte, Nat.reduceEqDiff, reduceCtorEq, argEnv, eq_self, if_true, if_false, *]) | (rw [condK_bool]; split <;> simp only [c8, hln, h40, h30, h31, hp1, p_eqn, beq_self_eq_true, evX, Int.reduceEq, Int.reduceLT, Int.reduceLE, Nat.reduceMul, Nat.reduceMod, evW, evR, Nat.reduceAdd, Nat.reduceLT, Nat.reduceLeDiff, reduceIte, Nat.reduceEqDiff, reduceCtorEq, argEnv, eq_self, if_true, if_false, *]) | (rw [guardD_cases]; split <;> simp only [c8, hln, h40, h30, h31, hp1, p_eqn, beq_self_eq_true, evX, Int.reduceEq, Int.reduceLT, Int.reduceLE, Nat.reduceMul, Nat.reduceMod, evW, evR, Nat.reduceAdd, Nat.reduceLT, Nat.reduceLeDiff, reduceIte, Nat.reduceEqDiff, reduceCtorEq, argEnv, eq_self, if_true, if_false, *]))
    generalize hz : itLim _ _ = z
    obtain ⟨T, H1, c1, rfl, hT1, hI1⟩ := l8_0 l hl (.int .i64 (m : Int)) (.int .i64 (nb : Int)) hT _ (by rfl) (by rfl) z hz
    have hsame := hI1.same
    simp only [hT1, hsame, evX, Int.reduceEq, Int.reduceLT, Int.reduceLE, Nat.reduceMul, Nat.reduceMod, evW, fn_eq, evR, Nat.reduceAdd, Nat.reduceLT, Nat.reduceLeDiff, reduceIte, Nat.reduceEqDiff, reduceCtorEq, argEnv, eq_self, if_true, if_false]
    repeat' (first | (rw [guardK_cases]; split <;> simp only [hT1, hsame, evX, Int.reduceEq, Int.reduceLT, Int.reduceLE, Nat.reduceMul, Nat.reduceMod, evW, evR, Nat.reduceAdd, Nat.reduceLT, Nat.reduceLeDiff, reduceIte, Nat.reduceEqDiff, reduceCtorEq, argEnv, eq_self, if_true, if_false, *]) | (rw [condK_bool]; split <;> simp only [hT1, hsame, evX, Int.reduceEq, Int.reduceLT, Int.reduceLE, Nat.reduceMul, Nat.reduceMod, evW, evR, Nat.reduceAdd, Nat.reduceLT, Nat.reduceLeDiff, reduceIte, Nat.reduceEqDiff, reduceCtorEq, argEnv, eq_self, if_true, if_false, *]) | (rw [guardD_cases]; split <;> simp only [hT1, hsame, evX, Int.reduceEq, Int.reduceLT, Int.reduceLE, Nat.reduceMul, Nat.reduceMod, evW, evR, Nat.reduceAdd, Nat.reduceLT, Nat.reduceLeDiff, reduceIte, Nat.reduceEqDiff, reduceCtorEq, argEnv, eq_self, if_true, if_false, *]))
    generalize hz : itLim _ _ = z
    obtain ⟨x, T2, G2, rfl, _, rfl, hT2⟩ := l8_1 hI1 (.int .i64 (m : Int)) [] _ (by rfl) (by rfl) z hz
    simp only [List.nil_append]
    simp only [hT2, evX, Int.reduceEq, Int.reduceLT, Int.reduceLE, Nat.reduceMul, Nat.reduceMod, evW, fn_eq, evR, Nat.reduceAdd, Nat.reduceLT, Nat.reduceLeDiff, reduceIte, Nat.reduceEqDiff, reduceCtorEq, argEnv, eq_self, if_true, if_false]
    repeat' (first | (rw [guardK_cases]; split <;> simp only [hT2, evX, Int.reduceEq, Int.reduceLT, Int.reduceLE, Nat.reduceMul, Nat.reduceMod, evW, evR, Nat.reduceAdd, Nat.reduceLT, Nat.reduceLeDiff, reduceIte, Nat.reduceEqDiff, reduceCtorEq, argEnv, eq_self, if_true, if_false, *]) | (rw [condK_bool]; split <;> simp only [hT2, evX, Int.reduceEq, Int.reduceLT, Int.reduceLE, Nat.reduceMul, Nat.reduceMod, evW, evR, Nat.reduceAdd, Nat.reduceLT, Nat.reduceLeDiff, reduceIte, Nat.reduceEqDiff, reduceCtorEq, argEnv, eq_self, if_true, if_false, *]) | (rw [guardD_cases]; split <;> simp only [hT2, evX, Int.reduceEq, Int.reduceLT, Int.reduceLE, Nat.reduceMul, Nat.reduceMod, evW, evR, Nat.reduceAdd, Nat.reduceLT, Nat.reduceLeDiff, reduceIte, Nat.reduceEqDiff, reduceCtorEq, argEnv, eq_self, if_true, if_false, *]))
    generalize hz : itLim _ _ = z
    obtain ⟨T3, H3, c3, rfl, hT3, hI3⟩ := l8_2 m hm (hI1.app G2) _ (by rfl) (by rfl) z hz
    simp only [hT3, evX, Int.reduceEq, Int.reduceLT, Int.reduceLE, Nat.reduceMul, Nat.reduceMod, evW, fn_eq, evR, Nat.reduceAdd, Nat.reduceLT, Nat.reduceLeDiff, reduceIte, Nat.reduceEqDiff, reduceCtorEq, argEnv, eq_self, if_true, if_false]
    repeat' (first | (rw [guardK_cases]; split <;> simp only [hT3, evX, Int.reduceEq, Int.reduceLT, Int.reduceLE, Nat.reduceMul, Nat.reduceMod, evW, evR, Nat.reduceAdd, Nat.reduceLT, Nat.reduceLeDiff, reduceIte, Nat.reduceEqDiff, reduceCtorEq, argEnv, eq_self, if_true, if_false, *]) | (rw [condK_bool]; split <;> simp only [hT3, evX, Int.reduceEq, Int.reduceLT, Int.reduceLE, Nat.reduceMul, Nat.reduceMod, evW, evR, Nat.reduceAdd, Nat.reduceLT, Nat.reduceLeDiff, reduceIte, Nat.reduceEqDiff, reduceCtorEq, argEnv, eq_self, if_true, if_false, *]) | (rw [guardD_cases]; split <;> simp only [hT3, evX, Int.reduceEq, Int.reduceLT, Int.reduceLE, Nat.reduceMul, Nat.reduceMod, evW, evR, Nat.reduceAdd, Nat.reduceLT, Nat.reduceLeDiff, reduceIte, Nat.reduceEqDiff, reduceCtorEq, argEnv, eq_self, if_true, if_false, *]))
    generalize hz : itLim _ _ = z
    obtain ⟨x, T4, G4, rfl, _, rfl⟩ := l8_3 hI3 _ (by rfl) (by rfl) z hz
    simp only [f11, evX, Int.reduceEq, Int.reduceLT, Int.reduceLE, Nat.reduceMul, Nat.reduceMod, evW, fn_eq, evR, Nat.reduceAdd, Nat.reduceLT, Nat.reduceLeDiff, reduceIte, Nat.reduceEqDiff, reduceCtorEq, argEnv, eq_self, if_true, if_false]
    repeat' (first | (rw [guardK_cases]; split <;> simp only [f11, evX, Int.reduceEq, Int.reduceLT, Int.reduceLE, Nat.reduceMul, Nat.reduceMod, evW, evR, Nat.reduceAdd, Nat.reduceLT, Nat.reduceLeDiff, reduceIte, Nat.reduceEqDiff, reduceCtorEq, argEnv, eq_self, if_true, if_false, *]) | (rw [condK_bool]; split <;> simp only [f11, evX, Int.reduceEq, Int.reduceLT, Int.reduceLE, Nat.reduceMul, Nat.reduceMod, evW, evR, Nat.reduceAdd, Nat.reduceLT, Nat.reduceLeDiff, reduceIte, Nat.reduceEqDiff, reduceCtorEq, argEnv, eq_self, if_true, if_false, *]) | (rw [guardD_cases]; split <;> simp only [f11, evX, Int.reduceEq, Int.reduceLT, Int.reduceLE, Nat.reduceMul, Nat.reduceMod, evW, evR, Nat.reduceAdd, Nat.reduceLT, Nat.reduceLeDiff, reduceIte, Nat.reduceEqDiff, reduceCtorEq, argEnv, eq_self, if_true, if_false, *]))
    exact ⟨_, rfl⟩
  · have h30 := fun H => f30_no k b hk H
    have h31 := fun H => f31_no k b hk H
    simp only [c8, hln, h40, h30, h31, p_eqn, eqn_nn, f11, beq_self_eq_true, evX, Int.reduceEq, Int.reduceLT, Int.reduceLE, Nat.reduceMul, Nat.reduceMod, evW, fn_eq, evR, Nat.reduceAdd, Nat.reduceLT, Nat.reduceLeDiff, reduceIte, Nat.reduceEqDiff, reduceCtorEq, argEnv, eq_self, if_true, if_false]
    repeat' (first | (rw [guardK_cases]; split <;> simp only [c8, hln, h40, h30, h31, p_eqn, eqn_nn, f11, beq_self_eq_true, evX, Int.reduceEq, Int.reduceLT, Int.reduceLE, Nat.reduceMul, Nat.reduceMod, evW, evR, Nat.reduceAdd, Nat.reduceLT, Nat.reduceLeDiff, reduceIte, Nat.reduceEqDiff, reduceCtorEq, argEnv, eq_self, if_true, if_false, *]) | (rw [condK_bool]; split <;> simp only [c8, hln, h40, h30, h31, p_eqn, eqn_nn, f11, beq_self_eq_true, evX, Int.reduceEq, Int.reduceLT, Int.reduceLE, Nat.reduceMul, Nat.reduceMod, evW, evR, Nat.reduceAdd, Nat.reduceLT, Nat.reduceLeDiff, reduceIte, Nat.reduceEqDiff, reduceCtorEq, argEnv, eq_self, if_true, if_false, *]) | (rw [guardD_cases]; split <;> simp only [c8, hln, h40, h30, h31, p_eqn, eqn_nn, f11, beq_self_eq_true, evX, Int.reduceEq, Int.reduceLT, Int.reduceLE, Nat.reduceMul, Nat.reduceMod, evW, evR, Nat.reduceAdd, Nat.reduceLT, Nat.reduceLeDiff, reduceIte, Nat.reduceEqDiff, reduceCtorEq, argEnv, eq_self, if_true, if_false, *]))
    exact ⟨_, rfl⟩
end Go.Proofs.Ytehcdcnghcbimaa.Code
namespace Go.Proofs.Ytehcdcnghcbimaa.Pure
open Go.Proofs.Ytehcdcnghcbimaa.Ev Go.Proofs.Ytehcdcnghcbimaa.Code Go.RowKit
theorem typedA {α : Type} {P : List AV → Prop} {enc : α → List AV} (h : ∀ r, P r → ∃ x, r = enc x) : ∀ l : List (List AV), (∀ r ∈ l, P r) → ∃ xs : List α, l = xs.map enc
  | [], _ => ⟨[], rfl⟩
  | r :: l, hl => by
    obtain ⟨x, rfl⟩ := h r (hl r (List.mem_cons_self ..))
    obtain ⟨xs, rfl⟩ := typedA h l fun r hr => hl r (List.mem_cons_of_mem _ hr)
    exact ⟨x :: xs, rfl⟩
theorem open_ac {r : List AV} (h : HasL [.int .u8, .int .i64, .int .i64, .str] r) : ∃ x : Ac, r = rAc x := by
  simp only [HasL.eq_2, HasL.eq_1, Has] at h
  obtain ⟨x, xs, rfl, ⟨d, rfl, _⟩, y, ys, rfl, ⟨i, rfl, _⟩, z, zs, rfl, ⟨n, rfl, _⟩, w, ws, rfl, ⟨s, rfl, _⟩, rfl⟩ := h
  exact ⟨⟨d, i, n, s⟩, rfl⟩
theorem open_acs {a : AV} (h : ArgTy false [.sl [.int .u8, .int .i64, .int .i64, .str]] a) : ∃ l : List Ac, a = eAcs l ∧ l.length ≤ reachBytes := by
  have h : HasL [.sl [.int .u8, .int .i64, .int .i64, .str]] [a] := h
  rw [HasL.eq_2] at h
  obtain ⟨x, xs, he, hx, hxs⟩ := h
  rw [HasL.eq_1] at hxs
  subst hxs
  cases he
  simp only [Has] at hx
  obtain ⟨l, rfl, hl, hr⟩ := hx
  obtain ⟨us, rfl⟩ := typedA (P := HasL [.int .u8, .int .i64, .int .i64, .str]) (fun r h => open_ac h) l hr
  exact ⟨us, rfl, by simpa using hl⟩
theorem open_n {a : AV} (h : ArgTy false [.int .i64] a) : ∃ n : Int, a = .int .i64 n := by
  have h : HasL [.int .i64] [a] := h
  simp only [HasL.eq_2, HasL.eq_1, Has] at h
  obtain ⟨y, ys, he, ⟨n, rfl, _⟩, rfl⟩ := h
  cases he
  exact ⟨n, rfl⟩
theorem FastAreas (a0 : AV) (t0 : ArgTy false [.int .i64] a0) (a1 : AV) (t1 : ArgTy false [.int .i64] a1) (a2 : AV) (t2 : ArgTy false [.sl [.int .u8, .int .i64, .int .i64, .str]] a2) : ∃ H', evC cprog 8 [a0, a1, a2] [] = some (.bool true, H') := by
  obtain ⟨k, rfl⟩ := open_n t0
  obtain ⟨b, rfl⟩ := open_n t1
  obtain ⟨l, rfl, hl⟩ := open_acs t2
  unfold reachBytes at hl
  rw [evC_fn at8]
  exact f8 k b l (by omega) []
end Go.Proofs.Ytehcdcnghcbimaa.Pure
