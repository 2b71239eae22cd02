/- page: whether bytes are used, and what they are. -/
import Derived.Test.YthgcnlmmgilhjaaPg
set_option linter.unusedSimpArgs false
set_option linter.unusedVariables false
namespace Go.Proofs.Ythgcnlmmgilhjaa.Code
open Go.Proofs.Ythgcnlmmgilhjaa.Ev

theorem pl_small (p : List Nat) (hp : Page p) : ∀ (k a least : Nat) (l : List Pl), 130 - least ≤ k → pl p a least = some l → ∀ x ∈ l, x.1 ≤ 126 ∧ x.2 < 256 ∧ x.1 + x.2 ≤ 128
  | k, a, least, l, hk, h => by
    by_cases h0 : a = 0
    · subst h0; rw [pl_zero] at h; cases h; simp
    · by_cases h1 : a < least ∨ a % 2 = 1 ∨ 126 < a
      · rw [pl_bad p h0 h1] at h; cases h
      · by_cases h2 : byte p (a + 1) < 2 ∨ byte p (a + 1) % 2 = 1 ∨ 128 < a + byte p (a + 1)
        · rw [pl_bad' p h0 h2] at h; cases h
        · rw [pl_next p h0 h1 h2] at h
          cases hq : pl p (byte p a) (a + byte p (a + 1) + 1) with
          | none => rw [hq] at h; cases h
          | some l' =>
            rw [hq] at h
            cases h
            cases k with
            | zero => omega
            | succ k =>
              intro x hx
              rcases List.mem_cons.1 hx with rfl | hx
              · exact ⟨by show a ≤ 126; omega, hp.byte _, by show a + byte p (a + 1) ≤ 128; omega⟩
              · exact pl_small p hp k _ _ l' (by omega) hq x hx
theorem ans_small (p : List Nat) (hp : Page p) : ∀ x ∈ (plAns p).1, x.1 ≤ 126 ∧ x.2 < 256 ∧ x.1 + x.2 ≤ 128 := by
  unfold plAns plOf
  split
  · rename_i l h
    split at h
    · exact pl_small p hp 130 _ _ l (by omega) h
    · cases h
  · simp
theorem ans_128 (p : List Nat) (h : (plAns p).2 = true) : p.length = 128 := by
  unfold plAns plOf at h
  split at h
  · rename_i l hl
    split at hl
    · rename_i hc; exact hc.1
    · cases hl
  · cases h
/-- what IsUsed answers -/
def isUsedAns (p : List Nat) (a n : Int) : Bool × Int := if (plAns p).2 = false then (false, 70) else if ¬ withinOk a n then (false, 2) else (usedAns (plAns p).1 a.toNat n.toNat, 0)
theorem f22 (p : List Nat) (hp : Page p) (a n : Int) (H : Heap) : cal (evC cprog) false 22 [eB p, .int .i64 a, .int .i64 n] H = some (.tup [.bool (isUsedAns p a n).1, .int .i64 (isUsedAns p a n).2], H) := by
  have h32 := fun H => f32F p hp H
  rw [cal_of at22]
  cases hok : (plAns p).2 with
  | false =>
    have ha : isUsedAns p a n = (false, 70) := by simp [isUsedAns, hok]
    simp only [hok] at h32
    rw [ha]
    simp only [c22, h32, evX, Int.reduceEq, Int.reduceLT, Int.reduceLE, Nat.reduceMul, Nat.reduceMod, evW, fn_eq, evR, Nat.reduceAdd, Nat.reduceLT, Nat.reduceLeDiff, reduceIte, Nat.reduceEqDiff, reduceCtorEq, argEnv, eq_self, if_true, if_false]
    repeat' (first | (rw [guardK_cases]; split <;> simp only [c22, h32, evX, Int.reduceEq, Int.reduceLT, Int.reduceLE, Nat.reduceMul, Nat.reduceMod, evW, evR, Nat.reduceAdd, Nat.reduceLT, Nat.reduceLeDiff, reduceIte, Nat.reduceEqDiff, reduceCtorEq, argEnv, eq_self, if_true, if_false, *]) | (rw [condK_bool]; split <;> simp only [c22, h32, evX, Int.reduceEq, Int.reduceLT, Int.reduceLE, Nat.reduceMul, Nat.reduceMod, evW, evR, Nat.reduceAdd, Nat.reduceLT, Nat.reduceLeDiff, reduceIte, Nat.reduceEqDiff, reduceCtorEq, argEnv, eq_self, if_true, if_false, *]) | (rw [guardD_cases]; split <;> simp only [c22, h32, evX, Int.reduceEq, Int.reduceLT, Int.reduceLE, Nat.reduceMul, Nat.reduceMod, evW, evR, Nat.reduceAdd, Nat.reduceLT, Nat.reduceLeDiff, reduceIte, Nat.reduceEqDiff, reduceCtorEq, argEnv, eq_self, if_true, if_false, *]))
  | true =>
    simp only [hok] at h32
    have h36 := fun H => f36 a n H
    by_cases hw : withinOk a n
    · have ha : isUsedAns p a n = (usedAns (plAns p).1 a.toNat n.toNat, 0) := by simp [isUsedAns, hok, hw]
      rw [ha]
      have hwi := hw
      unfold withinOk at hwi
      obtain ⟨a, rfl⟩ : ∃ k : Nat, a = k := ⟨a.toNat, by omega⟩
      obtain ⟨n, rfl⟩ : ∃ k : Nat, n = k := ⟨n.toNat, by omega⟩
      have h37 := fun H => f37 (plAns p).1 (ePl (plAns p).1) (by have := ans_len p; omega) (fun x hx => by have := ans_small p hp x hx; omega) a n (by omega) H (sPl H _)
      simp only [c22, h32, h36, hw, h37, Int.toNat_natCast, evX, Int.reduceEq, Int.reduceLT, Int.reduceLE, Nat.reduceMul, Nat.reduceMod, evW, fn_eq, evR, Nat.reduceAdd, Nat.reduceLT, Nat.reduceLeDiff, reduceIte, Nat.reduceEqDiff, reduceCtorEq, argEnv, eq_self, if_true, if_false]
      repeat' (first | (rw [guardK_cases]; split <;> simp only [c22, h32, h36, hw, h37, Int.toNat_natCast, evX, Int.reduceEq, Int.reduceLT, Int.reduceLE, Nat.reduceMul, Nat.reduceMod, evW, evR, Nat.reduceAdd, Nat.reduceLT, Nat.reduceLeDiff, reduceIte, Nat.reduceEqDiff, reduceCtorEq, argEnv, eq_self, if_true, if_false, *]) | (rw [condK_bool]; split <;> simp only [c22, h32, h36, hw, h37, Int.toNat_natCast, evX, Int.reduceEq, Int.reduceLT, Int.reduceLE, Nat.reduceMul, Nat.reduceMod, evW, evR, Nat.reduceAdd, Nat.reduceLT, Nat.reduceLeDiff, reduceIte, Nat.reduceEqDiff, reduceCtorEq, argEnv, eq_self, if_true, if_false, *]) | (rw [guardD_cases]; split <;> simp only [c22, h32, h36, hw, h37, Int.toNat_natCast, evX, Int.reduceEq, Int.reduceLT, Int.reduceLE, Nat.reduceMul, Nat.reduceMod, evW, evR, Nat.reduceAdd, Nat.reduceLT, Nat.reduceLeDiff, reduceIte, Nat.reduceEqDiff, reduceCtorEq, argEnv, eq_self, if_true, if_false, *]))
    · have ha : isUsedAns p a n = (false, 2) := by simp [isUsedAns, hok, hw]
      rw [ha]
      simp only [c22, h32, h36, hw, evX, Int.reduceEq, Int.reduceLT, Int.reduceLE, Nat.reduceMul, Nat.reduceMod, evW, fn_eq, evR, Nat.reduceAdd, Nat.reduceLT, Nat.reduceLeDiff, reduceIte, Nat.reduceEqDiff, reduceCtorEq, argEnv, eq_self, if_true, if_false]
      repeat' (first | (rw [guardK_cases]; split <;> simp only [c22, h32, h36, hw, evX, Int.reduceEq, Int.reduceLT, Int.reduceLE, Nat.reduceMul, Nat.reduceMod, evW, evR, Nat.reduceAdd, Nat.reduceLT, Nat.reduceLeDiff, reduceIte, Nat.reduceEqDiff, reduceCtorEq, argEnv, eq_self, if_true, if_false, *]) | (rw [condK_bool]; split <;> simp only [c22, h32, h36, hw, evX, Int.reduceEq, Int.reduceLT, Int.reduceLE, Nat.reduceMul, Nat.reduceMod, evW, evR, Nat.reduceAdd, Nat.reduceLT, Nat.reduceLeDiff, reduceIte, Nat.reduceEqDiff, reduceCtorEq, argEnv, eq_self, if_true, if_false, *]) | (rw [guardD_cases]; split <;> simp only [c22, h32, h36, hw, evX, Int.reduceEq, Int.reduceLT, Int.reduceLE, Nat.reduceMul, Nat.reduceMod, evW, evR, Nat.reduceAdd, Nat.reduceLT, Nat.reduceLeDiff, reduceIte, Nat.reduceEqDiff, reduceCtorEq, argEnv, eq_self, if_true, if_false, *]))
theorem nilAt (H : Heap) : SlAt H 2 .nils (([] : List Pl).map rPl) := ⟨rfl, fun i row hi => by simp at hi⟩
theorem fAt (l : List Pl) (i : Nat) (x : Pl) (hx : l[i]? = some x) : iaddrK 2 (some (ePl l)) (some (.int .i64 (i : Int))) = some (.fptr (rPl x)) := by
  have hrow : (l.map rPl)[i]? = some (rPl x) := by rw [List.getElem?_map, hx]; rfl
  unfold ePl; rw [iaddr_lst, asNat_cast, atK_some, hrow, rowK_some, if_pos (show (rPl x).length = 2 from rfl)]
theorem f23 (p : List Nat) (hp : Page p) (a n : Int) (H : Heap) : cal (evC cprog) false 23 [eB p, .int .i64 a, .int .i64 n] H = some (.tup [.bool (isUsedAns p a n).1, .int .i64 (isUsedAns p a n).2], H) := by
  have h33 := fun H => f33 p hp H
  rw [cal_of at23]
  cases hok : (plAns p).2 with
  | false =>
    have ha : isUsedAns p a n = (false, 70) := by simp [isUsedAns, hok]
    simp only [hok] at h33
    rw [ha]
    simp only [c23, h33, evX, Int.reduceEq, Int.reduceLT, Int.reduceLE, Nat.reduceMul, Nat.reduceMod, evW, fn_eq, evR, Nat.reduceAdd, Nat.reduceLT, Nat.reduceLeDiff, reduceIte, Nat.reduceEqDiff, reduceCtorEq, argEnv, eq_self, if_true, if_false]
    repeat' (first | (rw [guardK_cases]; split <;> simp only [c23, h33, evX, Int.reduceEq, Int.reduceLT, Int.reduceLE, Nat.reduceMul, Nat.reduceMod, evW, evR, Nat.reduceAdd, Nat.reduceLT, Nat.reduceLeDiff, reduceIte, Nat.reduceEqDiff, reduceCtorEq, argEnv, eq_self, if_true, if_false, *]) | (rw [condK_bool]; split <;> simp only [c23, h33, evX, Int.reduceEq, Int.reduceLT, Int.reduceLE, Nat.reduceMul, Nat.reduceMod, evW, evR, Nat.reduceAdd, Nat.reduceLT, Nat.reduceLeDiff, reduceIte, Nat.reduceEqDiff, reduceCtorEq, argEnv, eq_self, if_true, if_false, *]) | (rw [guardD_cases]; split <;> simp only [c23, h33, evX, Int.reduceEq, Int.reduceLT, Int.reduceLE, Nat.reduceMul, Nat.reduceMod, evW, evR, Nat.reduceAdd, Nat.reduceLT, Nat.reduceLeDiff, reduceIte, Nat.reduceEqDiff, reduceCtorEq, argEnv, eq_self, if_true, if_false, *]))
  | true =>
    simp only [hok] at h33
    have h0 := fun H => f38 [] .nils (by simp) (by simp) a n H (nilAt H) (by simp)
    have hu : usedAns [] a.toNat n.toNat = true := rfl
    have h38 := fun H => f38 (plAns p).1 (ePl (plAns p).1) (by have := ans_len p; omega) (fun x hx => by have := ans_small p hp x hx; omega) a n H (sPl H _) (fAt _)
    by_cases hw : withinOk a n
    · have ha : isUsedAns p a n = (usedAns (plAns p).1 a.toNat n.toNat, 0) := by simp [isUsedAns, hok, hw]
      rw [ha]
      simp only [hw, hu, decide_true, Bool.true_and] at h0 h38
      simp only [c23, h33, h0, h38, evX, Int.reduceEq, Int.reduceLT, Int.reduceLE, Nat.reduceMul, Nat.reduceMod, evW, fn_eq, evR, Nat.reduceAdd, Nat.reduceLT, Nat.reduceLeDiff, reduceIte, Nat.reduceEqDiff, reduceCtorEq, argEnv, eq_self, if_true, if_false]
      repeat' (first | (rw [guardK_cases]; split <;> simp only [c23, h33, h0, h38, evX, Int.reduceEq, Int.reduceLT, Int.reduceLE, Nat.reduceMul, Nat.reduceMod, evW, evR, Nat.reduceAdd, Nat.reduceLT, Nat.reduceLeDiff, reduceIte, Nat.reduceEqDiff, reduceCtorEq, argEnv, eq_self, if_true, if_false, *]) | (rw [condK_bool]; split <;> simp only [c23, h33, h0, h38, evX, Int.reduceEq, Int.reduceLT, Int.reduceLE, Nat.reduceMul, Nat.reduceMod, evW, evR, Nat.reduceAdd, Nat.reduceLT, Nat.reduceLeDiff, reduceIte, Nat.reduceEqDiff, reduceCtorEq, argEnv, eq_self, if_true, if_false, *]) | (rw [guardD_cases]; split <;> simp only [c23, h33, h0, h38, evX, Int.reduceEq, Int.reduceLT, Int.reduceLE, Nat.reduceMul, Nat.reduceMod, evW, evR, Nat.reduceAdd, Nat.reduceLT, Nat.reduceLeDiff, reduceIte, Nat.reduceEqDiff, reduceCtorEq, argEnv, eq_self, if_true, if_false, *]))
    · have ha : isUsedAns p a n = (false, 2) := by simp [isUsedAns, hok, hw]
      rw [ha]
      simp only [hw, decide_false, Bool.false_and] at h0
      simp only [c23, h33, h0, evX, Int.reduceEq, Int.reduceLT, Int.reduceLE, Nat.reduceMul, Nat.reduceMod, evW, fn_eq, evR, Nat.reduceAdd, Nat.reduceLT, Nat.reduceLeDiff, reduceIte, Nat.reduceEqDiff, reduceCtorEq, argEnv, eq_self, if_true, if_false]
      repeat' (first | (rw [guardK_cases]; split <;> simp only [c23, h33, h0, evX, Int.reduceEq, Int.reduceLT, Int.reduceLE, Nat.reduceMul, Nat.reduceMod, evW, evR, Nat.reduceAdd, Nat.reduceLT, Nat.reduceLeDiff, reduceIte, Nat.reduceEqDiff, reduceCtorEq, argEnv, eq_self, if_true, if_false, *]) | (rw [condK_bool]; split <;> simp only [c23, h33, h0, evX, Int.reduceEq, Int.reduceLT, Int.reduceLE, Nat.reduceMul, Nat.reduceMod, evW, evR, Nat.reduceAdd, Nat.reduceLT, Nat.reduceLeDiff, reduceIte, Nat.reduceEqDiff, reduceCtorEq, argEnv, eq_self, if_true, if_false, *]) | (rw [guardD_cases]; split <;> simp only [c23, h33, h0, evX, Int.reduceEq, Int.reduceLT, Int.reduceLE, Nat.reduceMul, Nat.reduceMod, evW, evR, Nat.reduceAdd, Nat.reduceLT, Nat.reduceLeDiff, reduceIte, Nat.reduceEqDiff, reduceCtorEq, argEnv, eq_self, if_true, if_false, *]))
theorem at39' : cprog 39 = some (cClone 5 1 1) := rfl
end Go.Proofs.Ythgcnlmmgilhjaa.Code
