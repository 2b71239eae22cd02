/- Areas: what a repair is. -/
import Derived.Test.YtehcdcnghcbimaaHe
set_option linter.unusedSimpArgs false
set_option linter.unusedVariables false
namespace Go.Proofs.Ytehcdcnghcbimaa.Code
open Go.Proofs.Ytehcdcnghcbimaa.Ev

def fixB (cs : List (List Bk)) (c : List Bk) (n : Nat) : Bk := if (bkAt c n).2 = true then (match cs.find? (well' n) with
  | some d => ((bkAt d n).1, false)
  | none => bkAt c n) else bkAt c n
def fixTo (cs : List (List Bk)) (c : List Bk) (k : Nat) : List Bk := (List.range c.length).map fun n => if n < k then fixB cs c n else bkAt c n
theorem fixTo_len (cs : List (List Bk)) (c : List Bk) (k : Nat) : (fixTo cs c k).length = c.length := by simp [fixTo]
theorem fixTo_get (cs : List (List Bk)) (c : List Bk) (k n : Nat) (h : n < c.length) : (fixTo cs c k)[n]? = some (if n < k then fixB cs c n else bkAt c n) := by
  simp [fixTo, h]
theorem fixTo_zero (cs : List (List Bk)) (c : List Bk) : fixTo cs c 0 = c := by
  apply List.ext_getElem?
  intro n
  by_cases h : n < c.length
  · rw [fixTo_get cs c 0 n h, if_neg (by omega), bk_get h]
  · rw [List.getElem?_eq_none (by rw [fixTo_len]; omega), List.getElem?_eq_none (by omega)]
theorem fixTo_succ (cs : List (List Bk)) (c : List Bk) {k : Nat} (hk : k < c.length) : (fixTo cs c k).set k (fixB cs c k) = fixTo cs c (k + 1) := by
  apply List.ext_getElem?
  intro n
  by_cases h : n < c.length
  · rw [fixTo_get cs c (k + 1) n h]
    by_cases hn : n = k
    · subst hn; rw [List.getElem?_set_self (by rw [fixTo_len]; exact h), if_pos (Nat.lt_succ_self n)]
    · rw [List.getElem?_set_ne (fun e => hn e.symm), fixTo_get cs c k n h]
      by_cases h2 : n < k
      · rw [if_pos h2, if_pos (by omega)]
      · rw [if_neg h2, if_neg (by omega)]
  · rw [List.getElem?_eq_none (by rw [List.length_set, fixTo_len]; omega), List.getElem?_eq_none (by rw [fixTo_len]; omega)]
theorem fixTo_at (cs : List (List Bk)) (c : List Bk) {k n : Nat} (h : k ≤ n) : bkAt (fixTo cs c k) n = bkAt c n := by
  unfold bkAt
  by_cases hn : n < c.length
  · rw [fixTo_get cs c k n hn, if_neg (by omega), bk_get hn]
  · rw [List.getElem?_eq_none (by rw [fixTo_len]; omega), List.getElem?_eq_none (by omega)]
theorem fixTo_same (cs : List (List Bk)) (c : List Bk) {k : Nat} (hb : (bkAt c k).2 = false) : fixTo cs c (k + 1) = fixTo cs c k := by
  unfold fixTo
  apply List.map_congr_left
  intro n _
  by_cases h : n < k
  · rw [if_pos h, if_pos (by omega)]
  · by_cases h2 : n = k
    · subst h2
      simp [fixB, hb]
    · rw [if_neg h, if_neg (by omega)]
def cntB (c : List Bk) (k : Nat) : Nat := ((List.range k).filter fun n => (bkAt c n).2).length
theorem cntB_zero (c : List Bk) : cntB c 0 = 0 := rfl
theorem cntB_succ (c : List Bk) (k : Nat) : cntB c (k + 1) = if (bkAt c k).2 = true then cntB c k + 1 else cntB c k := by
  unfold cntB
  rw [List.range_succ, List.filter_append]
  by_cases h : (bkAt c k).2 = true <;> simp [h]
theorem cntB_le (c : List Bk) (k : Nat) : cntB c k ≤ k := by
  have := List.length_filter_le (fun n => (bkAt c n).2) (List.range k)
  rw [List.length_range] at this
  exact this
/-- a block that cannot be repaired -/
def Lost (cs : List (List Bk)) (c : List Bk) (n : Nat) : Prop := (bkAt c n).2 = true ∧ cs.find? (well' n) = none
theorem find_set (p : List Bk → Bool) : ∀ (cs : List (List Bk)) (i : Nat) (c c' : List Bk), cs[i]? = some c → p c = false → p c' = false → (cs.set i c').find? p = cs.find? p
  | [], i, c, c', h, _, _ => by simp at h
  | d :: cs, 0, c, c', h, h1, h2 => by
    simp at h; subst h
    simp only [List.set_cons_zero, List.find?_cons, h1, h2]
  | d :: cs, i + 1, c, c', h, h1, h2 => by
    simp only [List.set_cons_succ, List.find?_cons]
    rw [find_set p cs i c c' (by simpa using h) h1 h2]
open Classical in
/-- what Repair does -/
noncomputable def repairA (cs : List (List Bk)) (nb : Nat) (i : Int) : (Int × Int) × List (List Bk) :=
  if ¬ okBlk cs.length i then ((0, 2), cs) else if ∃ n, n < nb ∧ Lost cs ((cs[i.toNat]?).getD []) n then ((0, 213), cs)
  else (((cntB ((cs[i.toNat]?).getD []) nb : Int), 0), cs.set i.toNat (fixTo cs ((cs[i.toNat]?).getD []) nb))
theorem repair_no {cs : List (List Bk)} {nb : Nat} {i : Int} (h : ¬ okBlk cs.length i) : repairA cs nb i = ((0, 2), cs) := by simp only [repairA, h, not_false_eq_true, if_true]
theorem repair_lost {cs : List (List Bk)} {nb i : Nat} {c : List Bk} (hc : cs[i]? = some c) (h : ∃ n, n < nb ∧ Lost cs c n) : repairA cs nb i = ((0, 213), cs) := by
  have hi := (List.getElem?_eq_some_iff.1 hc).1
  have hk : okBlk cs.length i := ⟨by omega, by omega⟩
  unfold repairA
  rw [if_neg (by simpa using hk), Int.toNat_natCast, hc, Option.getD_some, if_pos h]
theorem repair_ok {cs : List (List Bk)} {nb i : Nat} {c : List Bk} (hc : cs[i]? = some c) (h : ¬ ∃ n, n < nb ∧ Lost cs c n) : repairA cs nb i = (((cntB c nb : Int), 0), cs.set i (fixTo cs c nb)) := by
  have hi := (List.getElem?_eq_some_iff.1 hc).1
  have hk : okBlk cs.length i := ⟨by omega, by omega⟩
  unfold repairA
  rw [if_neg (by simpa using hk), Int.toNat_natCast, hc, Option.getD_some, if_neg h]
end Go.Proofs.Ytehcdcnghcbimaa.Code
