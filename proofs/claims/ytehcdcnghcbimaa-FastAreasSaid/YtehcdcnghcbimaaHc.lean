/- Areas: how many are left; blocks written. -/
import Derived.Test.YtehcdcnghcbimaaHb
set_option linter.unusedSimpArgs false
set_option linter.unusedVariables false
namespace Go.Proofs.Ytehcdcnghcbimaa.Code
open Go.Proofs.Ytehcdcnghcbimaa.Ev

def cntW (n : Nat) (cs : List (List Bk)) : Nat := (cs.filter (well' n)).length
theorem cnt_take (n : Nat) (cs : List (List Bk)) {i : Nat} {c : List Bk} (h : cs[i]? = some c) : cntW n (cs.take (i + 1)) = if well' n c = true then cntW n (cs.take i) + 1 else cntW n (cs.take i) := by
  unfold cntW
  rw [List.take_add_one, h, List.filter_append]
  by_cases hw : well' n c = true <;> simp [hw]
theorem cnt_le (n : Nat) (cs : List (List Bk)) : cntW n cs ≤ cs.length := List.length_filter_le _ _
def leftA (cs : List (List Bk)) (nb : Nat) (n : Int) : Int × Int := if okBlk nb n then ((cntW n.toNat cs : Int), 0) else (0, 2)
section
variable {tA tC tB : Nat} {H : Heap} {ba bc vc : Nat} {ws : Ws} {nb : Nat} {cs : List (List Bk)}
theorem f40 (h : Ar tA tC tB H ba bc vc ws nb cs) (n : Int) : cal (evC cprog) false 40 [.ptr ba 0 1 0 0, .int .i64 n] H = some (.tup [.int .i64 (leftA cs nb n).1, .int .i64 (leftA cs nb n).2], H) := by
  have h60 := f60 h n
  have hs := h.some'
  rw [cal_of at40]
  by_cases hk : okBlk nb n
  · rw [if_pos hk] at h60
    obtain ⟨n, rfl⟩ : ∃ k : Nat, n = k := ⟨n.toNat, by have := hk.1; omega⟩
    have hn : n < nb := by have := hk.2; omega
    have ha : leftA cs nb n = ((cntW n cs : Int), 0) := by simp only [leftA, if_pos hk, Int.toNat_natCast]
    have hbox := h.box
    have hlp := fun st hE hH z hz => all_rule cs (fun _ => true) [1, 7, 19, 20, 21] (fun i => [(1, .int .i64 (n : Int)), (7, .int .i64 (cntW n (cs.take i) : Int)), (19, .ref bc vc 1 0 cs.length), (20, .int .i64 (cs.length : Int)), (21, .int .i64 (i : Int))]) H [] (evCode (evC cprog) itLim c40_l0) (fun x T => x = .exit 0 ∧ get T 7 = some (.int .i64 (cntW n cs : Int))) (fun _ _ => False)
      (fun i c hc E G hE => by
        have hlt : i < cs.length := (List.getElem?_eq_some_iff.1 hc).1
        have hi : (i : Int) < (cs.length : Int) := by omega
        obtain ⟨w, p, _, hp, hat, hs2, hcl⟩ := h.row hc
        obtain ⟨_, q, hq, hqt⟩ := hs2.get n (rBk (bkAt c n)) (by rw [List.getElem?_map, bk_get (by omega)]; rfl)
        have hf1 := fun X => hqt.fldx 1 1 X
        simp only [rBk, List.getElem?_cons_succ, List.getElem?_cons_zero] at hf1
        have hfa1 := hqt.faddr 1
        have hct := cnt_take n cs hc
        have hle := cnt_le n (cs.take i)
        rw [List.length_take] at hle
        have hw1 := wrapS (i := cntW n (cs.take i)) (n := 10) (by omega) (by omega)
        cases hb : (bkAt c n).2 with
        | true =>
          rw [hb] at hf1
          rw [if_neg (by simp [well', hb])] at hct
          simp only [c40_l0, hE, hi, hp, hat.onex, hq, hfa1, hf1, wrapS hlt (by omega : cs.length < 9223372036854775807), evX, Int.reduceEq, Int.reduceLT, Int.reduceLE, Nat.reduceMul, Nat.reduceMod, evW, fn_eq, evR, Nat.reduceAdd, Nat.reduceLT, Nat.reduceLeDiff, reduceIte, Nat.reduceEqDiff, reduceCtorEq, argEnv, eq_self, if_true, if_false]
          repeat' (first | (rw [guardK_cases]; split <;> simp only [c40_l0, hE, hi, hp, hat.onex, hq, hfa1, hf1, wrapS hlt (by omega : cs.length < 9223372036854775807), evX, Int.reduceEq, Int.reduceLT, Int.reduceLE, Nat.reduceMul, Nat.reduceMod, evW, evR, Nat.reduceAdd, Nat.reduceLT, Nat.reduceLeDiff, reduceIte, Nat.reduceEqDiff, reduceCtorEq, argEnv, eq_self, if_true, if_false, *]) | (rw [condK_bool]; split <;> simp only [c40_l0, hE, hi, hp, hat.onex, hq, hfa1, hf1, wrapS hlt (by omega : cs.length < 9223372036854775807), evX, Int.reduceEq, Int.reduceLT, Int.reduceLE, Nat.reduceMul, Nat.reduceMod, evW, evR, Nat.reduceAdd, Nat.reduceLT, Nat.reduceLeDiff, reduceIte, Nat.reduceEqDiff, reduceCtorEq, argEnv, eq_self, if_true, if_false, *]) | (rw [guardD_cases]; split <;> simp only [c40_l0, hE, hi, hp, hat.onex, hq, hfa1, hf1, wrapS hlt (by omega : cs.length < 9223372036854775807), evX, Int.reduceEq, Int.reduceLT, Int.reduceLE, Nat.reduceMul, Nat.reduceMod, evW, evR, Nat.reduceAdd, Nat.reduceLT, Nat.reduceLeDiff, reduceIte, Nat.reduceEqDiff, reduceCtorEq, argEnv, eq_self, if_true, if_false, *]))
          exact Sc.next (K := []) rfl (by rw [hct]; rfl)
        | false =>
          rw [hb] at hf1
          rw [if_pos (by simp [well', hb])] at hct
          simp only [c40_l0, hE, hi, hp, hat.onex, hq, hfa1, hf1, hw1, wrapS hlt (by omega : cs.length < 9223372036854775807), evX, Int.reduceEq, Int.reduceLT, Int.reduceLE, Nat.reduceMul, Nat.reduceMod, evW, fn_eq, evR, Nat.reduceAdd, Nat.reduceLT, Nat.reduceLeDiff, reduceIte, Nat.reduceEqDiff, reduceCtorEq, argEnv, eq_self, if_true, if_false]
          repeat' (first | (rw [guardK_cases]; split <;> simp only [c40_l0, hE, hi, hp, hat.onex, hq, hfa1, hf1, hw1, wrapS hlt (by omega : cs.length < 9223372036854775807), evX, Int.reduceEq, Int.reduceLT, Int.reduceLE, Nat.reduceMul, Nat.reduceMod, evW, evR, Nat.reduceAdd, Nat.reduceLT, Nat.reduceLeDiff, reduceIte, Nat.reduceEqDiff, reduceCtorEq, argEnv, eq_self, if_true, if_false, *]) | (rw [condK_bool]; split <;> simp only [c40_l0, hE, hi, hp, hat.onex, hq, hfa1, hf1, hw1, wrapS hlt (by omega : cs.length < 9223372036854775807), evX, Int.reduceEq, Int.reduceLT, Int.reduceLE, Nat.reduceMul, Nat.reduceMod, evW, evR, Nat.reduceAdd, Nat.reduceLT, Nat.reduceLeDiff, reduceIte, Nat.reduceEqDiff, reduceCtorEq, argEnv, eq_self, if_true, if_false, *]) | (rw [guardD_cases]; split <;> simp only [c40_l0, hE, hi, hp, hat.onex, hq, hfa1, hf1, hw1, wrapS hlt (by omega : cs.length < 9223372036854775807), evX, Int.reduceEq, Int.reduceLT, Int.reduceLE, Nat.reduceMul, Nat.reduceMod, evW, evR, Nat.reduceAdd, Nat.reduceLT, Nat.reduceLeDiff, reduceIte, Nat.reduceEqDiff, reduceCtorEq, argEnv, eq_self, if_true, if_false, *]))
          exact Sc.next (K := []) rfl (by rw [hct]; rfl))
      (fun E G hE => by
        simp only [c40_l0, hE, Int.lt_irrefl, List.take_length, evX, Int.reduceEq, Int.reduceLT, Int.reduceLE, Nat.reduceMul, Nat.reduceMod, evW, fn_eq, evR, Nat.reduceAdd, Nat.reduceLT, Nat.reduceLeDiff, reduceIte, Nat.reduceEqDiff, reduceCtorEq, argEnv, eq_self, if_true, if_false]
        repeat' (first | (rw [guardK_cases]; split <;> simp only [c40_l0, hE, Int.lt_irrefl, List.take_length, evX, Int.reduceEq, Int.reduceLT, Int.reduceLE, Nat.reduceMul, Nat.reduceMod, evW, evR, Nat.reduceAdd, Nat.reduceLT, Nat.reduceLeDiff, reduceIte, Nat.reduceEqDiff, reduceCtorEq, argEnv, eq_self, if_true, if_false, *]) | (rw [condK_bool]; split <;> simp only [c40_l0, hE, Int.lt_irrefl, List.take_length, evX, Int.reduceEq, Int.reduceLT, Int.reduceLE, Nat.reduceMul, Nat.reduceMod, evW, evR, Nat.reduceAdd, Nat.reduceLT, Nat.reduceLeDiff, reduceIte, Nat.reduceEqDiff, reduceCtorEq, argEnv, eq_self, if_true, if_false, *]) | (rw [guardD_cases]; split <;> simp only [c40_l0, hE, Int.lt_irrefl, List.take_length, evX, Int.reduceEq, Int.reduceLT, Int.reduceLE, Nat.reduceMul, Nat.reduceMod, evW, evR, Nat.reduceAdd, Nat.reduceLT, Nat.reduceLeDiff, reduceIte, Nat.reduceEqDiff, reduceCtorEq, argEnv, eq_self, if_true, if_false, *]))
        exact .exit (K := []) ⟨rfl, by rfl⟩) st [] hE hH z hz
    rw [ha]
    simp only [c40, h60, nck, hbox, evX, Int.reduceEq, Int.reduceLT, Int.reduceLE, Nat.reduceMul, Nat.reduceMod, evW, fn_eq, evR, Nat.reduceAdd, Nat.reduceLT, Nat.reduceLeDiff, reduceIte, Nat.reduceEqDiff, reduceCtorEq, argEnv, eq_self, if_true, if_false]
    repeat' (first | (rw [guardK_cases]; split <;> simp only [c40, h60, nck, hbox, evX, Int.reduceEq, Int.reduceLT, Int.reduceLE, Nat.reduceMul, Nat.reduceMod, evW, evR, Nat.reduceAdd, Nat.reduceLT, Nat.reduceLeDiff, reduceIte, Nat.reduceEqDiff, reduceCtorEq, argEnv, eq_self, if_true, if_false, *]) | (rw [condK_bool]; split <;> simp only [c40, h60, nck, hbox, evX, Int.reduceEq, Int.reduceLT, Int.reduceLE, Nat.reduceMul, Nat.reduceMod, evW, evR, Nat.reduceAdd, Nat.reduceLT, Nat.reduceLeDiff, reduceIte, Nat.reduceEqDiff, reduceCtorEq, argEnv, eq_self, if_true, if_false, *]) | (rw [guardD_cases]; split <;> simp only [c40, h60, nck, hbox, evX, Int.reduceEq, Int.reduceLT, Int.reduceLE, Nat.reduceMul, Nat.reduceMod, evW, evR, Nat.reduceAdd, Nat.reduceLT, Nat.reduceLeDiff, reduceIte, Nat.reduceEqDiff, reduceCtorEq, argEnv, eq_self, if_true, if_false, *]))
    generalize hz : itLim _ _ = z
    rcases hlp _ (by rfl) (by simp) z hz with ⟨_, x, T, G, rfl, _, rfl, hT⟩ | ⟨h, _⟩
    · simp only [hT, evX, Int.reduceEq, Int.reduceLT, Int.reduceLE, Nat.reduceMul, Nat.reduceMod, evW, fn_eq, evR, Nat.reduceAdd, Nat.reduceLT, Nat.reduceLeDiff, reduceIte, Nat.reduceEqDiff, reduceCtorEq, argEnv, eq_self, if_true, if_false]
      repeat' (first | (rw [guardK_cases]; split <;> simp only [hT, evX, Int.reduceEq, Int.reduceLT, Int.reduceLE, Nat.reduceMul, Nat.reduceMod, evW, evR, Nat.reduceAdd, Nat.reduceLT, Nat.reduceLeDiff, reduceIte, Nat.reduceEqDiff, reduceCtorEq, argEnv, eq_self, if_true, if_false, *]) | (rw [condK_bool]; split <;> simp only [hT, evX, Int.reduceEq, Int.reduceLT, Int.reduceLE, Nat.reduceMul, Nat.reduceMod, evW, evR, Nat.reduceAdd, Nat.reduceLT, Nat.reduceLeDiff, reduceIte, Nat.reduceEqDiff, reduceCtorEq, argEnv, eq_self, if_true, if_false, *]) | (rw [guardD_cases]; split <;> simp only [hT, evX, Int.reduceEq, Int.reduceLT, Int.reduceLE, Nat.reduceMul, Nat.reduceMod, evW, evR, Nat.reduceAdd, Nat.reduceLT, Nat.reduceLeDiff, reduceIte, Nat.reduceEqDiff, reduceCtorEq, argEnv, eq_self, if_true, if_false, *]))
    · rw [List.all_eq_false] at h
      obtain ⟨_, _, h⟩ := h
      exact absurd rfl h
  · rw [if_neg hk] at h60
    have ha : leftA cs nb n = (0, 2) := by simp only [leftA, if_neg hk]
    rw [ha]
    simp only [c40, h60, evX, Int.reduceEq, Int.reduceLT, Int.reduceLE, Nat.reduceMul, Nat.reduceMod, evW, fn_eq, evR, Nat.reduceAdd, Nat.reduceLT, Nat.reduceLeDiff, reduceIte, Nat.reduceEqDiff, reduceCtorEq, argEnv, eq_self, if_true, if_false]
    repeat' (first | (rw [guardK_cases]; split <;> simp only [c40, h60, evX, Int.reduceEq, Int.reduceLT, Int.reduceLE, Nat.reduceMul, Nat.reduceMod, evW, evR, Nat.reduceAdd, Nat.reduceLT, Nat.reduceLeDiff, reduceIte, Nat.reduceEqDiff, reduceCtorEq, argEnv, eq_self, if_true, if_false, *]) | (rw [condK_bool]; split <;> simp only [c40, h60, evX, Int.reduceEq, Int.reduceLT, Int.reduceLE, Nat.reduceMul, Nat.reduceMod, evW, evR, Nat.reduceAdd, Nat.reduceLT, Nat.reduceLeDiff, reduceIte, Nat.reduceEqDiff, reduceCtorEq, argEnv, eq_self, if_true, if_false, *]) | (rw [guardD_cases]; split <;> simp only [c40, h60, evX, Int.reduceEq, Int.reduceLT, Int.reduceLE, Nat.reduceMul, Nat.reduceMod, evW, evR, Nat.reduceAdd, Nat.reduceLT, Nat.reduceLeDiff, reduceIte, Nat.reduceEqDiff, reduceCtorEq, argEnv, eq_self, if_true, if_false, *]))
theorem f41 (h : Ar tA tC tB H ba bc vc ws nb cs) (n : Int) : cal (evC cprog) false 41 [.ptr ba 0 1 0 0, .int .i64 n] H = some (.tup [.int .i64 (leftA cs nb n).1, .int .i64 (leftA cs nb n).2], H) := by
  have h62 := f62 h n
  have hs := h.some'
  rw [cal_of at41]
  by_cases hk : okBlk nb n
  · rw [decide_eq_true hk] at h62
    obtain ⟨n, rfl⟩ : ∃ k : Nat, n = k := ⟨n.toNat, by have := hk.1; omega⟩
    have hn : n < nb := by have := hk.2; omega
    have ha : leftA cs nb n = ((cntW n cs : Int), 0) := by simp only [leftA, if_pos hk, Int.toNat_natCast]
    have hlp := fun z hz => all_rule cs (fun _ => true) [0, 1, 6, 7] (fun i => [(0, .ptr ba 0 1 0 0), (1, .int .i64 (n : Int)), (6, .int .i64 (cntW n (cs.take i) : Int)), (7, .int .i64 (i : Int))]) H [] (evCode (evC cprog) itLim c41_l0) (fun x T => x = .exit 0 ∧ get T 6 = some (.int .i64 (cntW n cs : Int))) (fun _ _ => False)
      (fun i c hc E G hE => by
        have hlt : i < cs.length := (List.getElem?_eq_some_iff.1 hc).1
        have hi : (i : Int) < (cs.length : Int) := by omega
        obtain ⟨w, p, _, hp, hat, hs2, hcl⟩ := h.row hc
        obtain ⟨_, q, hq, hqt⟩ := hs2.get n (rBk (bkAt c n)) (by rw [List.getElem?_map, bk_get (by omega)]; rfl)
        have hf1 := fun X => hqt.fldx 1 1 X
        simp only [rBk, List.getElem?_cons_succ, List.getElem?_cons_zero] at hf1
        have hfa1 := hqt.faddr 1
        have hbox := h.boxx
        have hct := cnt_take n cs hc
        have hle := cnt_le n (cs.take i)
        rw [List.length_take] at hle
        have hw1 := wrapS (i := cntW n (cs.take i)) (n := 10) (by omega) (by omega)
        cases hb : (bkAt c n).2 with
        | true =>
          rw [hb] at hf1
          rw [if_neg (by simp [well', hb])] at hct
          simp only [c41_l0, hE, nck, hbox, hi, hp, hat.onex, hq, hfa1, hf1, wrapS hlt (by omega : cs.length < 9223372036854775807), evX, Int.reduceEq, Int.reduceLT, Int.reduceLE, Nat.reduceMul, Nat.reduceMod, evW, fn_eq, evR, Nat.reduceAdd, Nat.reduceLT, Nat.reduceLeDiff, reduceIte, Nat.reduceEqDiff, reduceCtorEq, argEnv, eq_self, if_true, if_false]
          repeat' (first | (rw [guardK_cases]; split <;> simp only [c41_l0, hE, nck, hbox, hi, hp, hat.onex, hq, hfa1, hf1, wrapS hlt (by omega : cs.length < 9223372036854775807), evX, Int.reduceEq, Int.reduceLT, Int.reduceLE, Nat.reduceMul, Nat.reduceMod, evW, evR, Nat.reduceAdd, Nat.reduceLT, Nat.reduceLeDiff, reduceIte, Nat.reduceEqDiff, reduceCtorEq, argEnv, eq_self, if_true, if_false, *]) | (rw [condK_bool]; split <;> simp only [c41_l0, hE, nck, hbox, hi, hp, hat.onex, hq, hfa1, hf1, wrapS hlt (by omega : cs.length < 9223372036854775807), evX, Int.reduceEq, Int.reduceLT, Int.reduceLE, Nat.reduceMul, Nat.reduceMod, evW, evR, Nat.reduceAdd, Nat.reduceLT, Nat.reduceLeDiff, reduceIte, Nat.reduceEqDiff, reduceCtorEq, argEnv, eq_self, if_true, if_false, *]) | (rw [guardD_cases]; split <;> simp only [c41_l0, hE, nck, hbox, hi, hp, hat.onex, hq, hfa1, hf1, wrapS hlt (by omega : cs.length < 9223372036854775807), evX, Int.reduceEq, Int.reduceLT, Int.reduceLE, Nat.reduceMul, Nat.reduceMod, evW, evR, Nat.reduceAdd, Nat.reduceLT, Nat.reduceLeDiff, reduceIte, Nat.reduceEqDiff, reduceCtorEq, argEnv, eq_self, if_true, if_false, *]))
          exact Sc.next (K := []) rfl (by rw [hct]; rfl)
        | false =>
          rw [hb] at hf1
          rw [if_pos (by simp [well', hb])] at hct
          simp only [c41_l0, hE, nck, hbox, hi, hp, hat.onex, hq, hfa1, hf1, hw1, wrapS hlt (by omega : cs.length < 9223372036854775807), evX, Int.reduceEq, Int.reduceLT, Int.reduceLE, Nat.reduceMul, Nat.reduceMod, evW, fn_eq, evR, Nat.reduceAdd, Nat.reduceLT, Nat.reduceLeDiff, reduceIte, Nat.reduceEqDiff, reduceCtorEq, argEnv, eq_self, if_true, if_false]
          repeat' (first | (rw [guardK_cases]; split <;> simp only [c41_l0, hE, nck, hbox, hi, hp, hat.onex, hq, hfa1, hf1, hw1, wrapS hlt (by omega : cs.length < 9223372036854775807), evX, Int.reduceEq, Int.reduceLT, Int.reduceLE, Nat.reduceMul, Nat.reduceMod, evW, evR, Nat.reduceAdd, Nat.reduceLT, Nat.reduceLeDiff, reduceIte, Nat.reduceEqDiff, reduceCtorEq, argEnv, eq_self, if_true, if_false, *]) | (rw [condK_bool]; split <;> simp only [c41_l0, hE, nck, hbox, hi, hp, hat.onex, hq, hfa1, hf1, hw1, wrapS hlt (by omega : cs.length < 9223372036854775807), evX, Int.reduceEq, Int.reduceLT, Int.reduceLE, Nat.reduceMul, Nat.reduceMod, evW, evR, Nat.reduceAdd, Nat.reduceLT, Nat.reduceLeDiff, reduceIte, Nat.reduceEqDiff, reduceCtorEq, argEnv, eq_self, if_true, if_false, *]) | (rw [guardD_cases]; split <;> simp only [c41_l0, hE, nck, hbox, hi, hp, hat.onex, hq, hfa1, hf1, hw1, wrapS hlt (by omega : cs.length < 9223372036854775807), evX, Int.reduceEq, Int.reduceLT, Int.reduceLE, Nat.reduceMul, Nat.reduceMod, evW, evR, Nat.reduceAdd, Nat.reduceLT, Nat.reduceLeDiff, reduceIte, Nat.reduceEqDiff, reduceCtorEq, argEnv, eq_self, if_true, if_false, *]))
          exact Sc.next (K := []) rfl (by rw [hct]; rfl))
      (fun E G hE => by
        have hbox := h.boxx
        simp only [c41_l0, hE, nck, hbox, Int.lt_irrefl, List.take_length, evX, Int.reduceEq, Int.reduceLT, Int.reduceLE, Nat.reduceMul, Nat.reduceMod, evW, fn_eq, evR, Nat.reduceAdd, Nat.reduceLT, Nat.reduceLeDiff, reduceIte, Nat.reduceEqDiff, reduceCtorEq, argEnv, eq_self, if_true, if_false]
        repeat' (first | (rw [guardK_cases]; split <;> simp only [c41_l0, hE, nck, hbox, Int.lt_irrefl, List.take_length, evX, Int.reduceEq, Int.reduceLT, Int.reduceLE, Nat.reduceMul, Nat.reduceMod, evW, evR, Nat.reduceAdd, Nat.reduceLT, Nat.reduceLeDiff, reduceIte, Nat.reduceEqDiff, reduceCtorEq, argEnv, eq_self, if_true, if_false, *]) | (rw [condK_bool]; split <;> simp only [c41_l0, hE, nck, hbox, Int.lt_irrefl, List.take_length, evX, Int.reduceEq, Int.reduceLT, Int.reduceLE, Nat.reduceMul, Nat.reduceMod, evW, evR, Nat.reduceAdd, Nat.reduceLT, Nat.reduceLeDiff, reduceIte, Nat.reduceEqDiff, reduceCtorEq, argEnv, eq_self, if_true, if_false, *]) | (rw [guardD_cases]; split <;> simp only [c41_l0, hE, nck, hbox, Int.lt_irrefl, List.take_length, evX, Int.reduceEq, Int.reduceLT, Int.reduceLE, Nat.reduceMul, Nat.reduceMod, evW, evR, Nat.reduceAdd, Nat.reduceLT, Nat.reduceLeDiff, reduceIte, Nat.reduceEqDiff, reduceCtorEq, argEnv, eq_self, if_true, if_false, *]))
        exact .exit (K := []) ⟨rfl, by rfl⟩) ([(7, .int .i64 0), (0, .ptr ba 0 1 0 0), (1, .int .i64 (n : Int)), (6, .int .i64 0)], H) [] (by rfl) (by simp) z hz
    rw [ha]
    simp only [c41, h62, evX, Int.reduceEq, Int.reduceLT, Int.reduceLE, Nat.reduceMul, Nat.reduceMod, evW, fn_eq, evR, Nat.reduceAdd, Nat.reduceLT, Nat.reduceLeDiff, reduceIte, Nat.reduceEqDiff, reduceCtorEq, argEnv, eq_self, if_true, if_false]
    repeat' (first | (rw [guardK_cases]; split <;> simp only [c41, h62, evX, Int.reduceEq, Int.reduceLT, Int.reduceLE, Nat.reduceMul, Nat.reduceMod, evW, evR, Nat.reduceAdd, Nat.reduceLT, Nat.reduceLeDiff, reduceIte, Nat.reduceEqDiff, reduceCtorEq, argEnv, eq_self, if_true, if_false, *]) | (rw [condK_bool]; split <;> simp only [c41, h62, evX, Int.reduceEq, Int.reduceLT, Int.reduceLE, Nat.reduceMul, Nat.reduceMod, evW, evR, Nat.reduceAdd, Nat.reduceLT, Nat.reduceLeDiff, reduceIte, Nat.reduceEqDiff, reduceCtorEq, argEnv, eq_self, if_true, if_false, *]) | (rw [guardD_cases]; split <;> simp only [c41, h62, evX, Int.reduceEq, Int.reduceLT, Int.reduceLE, Nat.reduceMul, Nat.reduceMod, evW, evR, Nat.reduceAdd, Nat.reduceLT, Nat.reduceLeDiff, reduceIte, Nat.reduceEqDiff, reduceCtorEq, argEnv, eq_self, if_true, if_false, *]))
    generalize hz : itLim _ _ = z
    rcases hlp z hz with ⟨_, x, T, G, rfl, _, rfl, hT⟩ | ⟨h, _⟩
    · simp only [hT, evX, Int.reduceEq, Int.reduceLT, Int.reduceLE, Nat.reduceMul, Nat.reduceMod, evW, fn_eq, evR, Nat.reduceAdd, Nat.reduceLT, Nat.reduceLeDiff, reduceIte, Nat.reduceEqDiff, reduceCtorEq, argEnv, eq_self, if_true, if_false]
      repeat' (first | (rw [guardK_cases]; split <;> simp only [hT, evX, Int.reduceEq, Int.reduceLT, Int.reduceLE, Nat.reduceMul, Nat.reduceMod, evW, evR, Nat.reduceAdd, Nat.reduceLT, Nat.reduceLeDiff, reduceIte, Nat.reduceEqDiff, reduceCtorEq, argEnv, eq_self, if_true, if_false, *]) | (rw [condK_bool]; split <;> simp only [hT, evX, Int.reduceEq, Int.reduceLT, Int.reduceLE, Nat.reduceMul, Nat.reduceMod, evW, evR, Nat.reduceAdd, Nat.reduceLT, Nat.reduceLeDiff, reduceIte, Nat.reduceEqDiff, reduceCtorEq, argEnv, eq_self, if_true, if_false, *]) | (rw [guardD_cases]; split <;> simp only [hT, evX, Int.reduceEq, Int.reduceLT, Int.reduceLE, Nat.reduceMul, Nat.reduceMod, evW, evR, Nat.reduceAdd, Nat.reduceLT, Nat.reduceLeDiff, reduceIte, Nat.reduceEqDiff, reduceCtorEq, argEnv, eq_self, if_true, if_false, *]))
    · rw [List.all_eq_false] at h
      obtain ⟨_, _, h⟩ := h
      exact absurd rfl h
  · rw [decide_eq_false hk] at h62
    have ha : leftA cs nb n = (0, 2) := by simp only [leftA, if_neg hk]
    rw [ha]
    simp only [c41, h62, evX, Int.reduceEq, Int.reduceLT, Int.reduceLE, Nat.reduceMul, Nat.reduceMod, evW, fn_eq, evR, Nat.reduceAdd, Nat.reduceLT, Nat.reduceLeDiff, reduceIte, Nat.reduceEqDiff, reduceCtorEq, argEnv, eq_self, if_true, if_false]
    repeat' (first | (rw [guardK_cases]; split <;> simp only [c41, h62, evX, Int.reduceEq, Int.reduceLT, Int.reduceLE, Nat.reduceMul, Nat.reduceMod, evW, evR, Nat.reduceAdd, Nat.reduceLT, Nat.reduceLeDiff, reduceIte, Nat.reduceEqDiff, reduceCtorEq, argEnv, eq_self, if_true, if_false, *]) | (rw [condK_bool]; split <;> simp only [c41, h62, evX, Int.reduceEq, Int.reduceLT, Int.reduceLE, Nat.reduceMul, Nat.reduceMod, evW, evR, Nat.reduceAdd, Nat.reduceLT, Nat.reduceLeDiff, reduceIte, Nat.reduceEqDiff, reduceCtorEq, argEnv, eq_self, if_true, if_false, *]) | (rw [guardD_cases]; split <;> simp only [c41, h62, evX, Int.reduceEq, Int.reduceLT, Int.reduceLE, Nat.reduceMul, Nat.reduceMod, evW, evR, Nat.reduceAdd, Nat.reduceLT, Nat.reduceLeDiff, reduceIte, Nat.reduceEqDiff, reduceCtorEq, argEnv, eq_self, if_true, if_false, *]))
/-- what stays: all but some blocks -/
structure Frame (F : List Nat) (H H' : Heap) : Prop where
  len : H.length ≤ H'.length
  keep : ∀ g, g < H.length → g ∉ F → H'[g]? = H[g]?
theorem Frame.refl (F : List Nat) (H : Heap) : Frame F H H := ⟨Nat.le_refl _, fun _ _ _ => rfl⟩
theorem Frame.set {F : List Nat} {H H' : Heap} (h : Frame F H H') {g : Nat} (hg : g ∈ F) (k : Blk) : Frame F H (H'.set g k) :=
  ⟨by rw [List.length_set]; exact h.len, fun j hj hn => by
    have hne : g ≠ j := fun e => hn (by rw [← e]; exact hg)
    rw [List.getElem?_set_ne hne]; exact h.keep j hj hn⟩
theorem Frame.app {F : List Nat} {H H' : Heap} (h : Frame F H H') (X : Heap) : Frame F H (H' ++ X) :=
  ⟨by rw [List.length_append]; have := h.len; omega, fun j hj hn => by rw [List.getElem?_append_left (by have := h.len; omega)]; exact h.keep j hj hn⟩
theorem Ar.keep {F : List Nat} {H' : Heap} (h : Ar tA tC tB H ba bc vc ws nb cs) (hf : Frame F H H') (hd : ∀ g ∈ foot ba bc ws, g ∉ F) : Ar tA tC tB H' ba bc vc ws nb cs :=
  h.same fun g hg => hf.keep g (h.lt g hg) (hd g hg)
theorem Ar.mem (h : Ar tA tC tB H ba bc vc ws nb cs) {i : Nat} {w : Nat × Nat} (hw : ws[i]? = some w) : w.1 ∈ foot ba bc ws := by
  simp only [foot, List.mem_cons, List.mem_map]; exact .inr (.inr ⟨w, List.mem_of_getElem? hw, rfl⟩)
/-- a copy written -/
theorem Ar.setBlk (h : Ar tA tC tB H ba bc vc ws nb cs) {i : Nat} {w : Nat × Nat} {c c' : List Bk} (hw : ws[i]? = some w) (hc : cs[i]? = some c) (hl : c'.length = nb) :
    Ar tA tC tB (H.set w.1 ⟨w.2, true, tB, 2, c'.map rBk⟩) ba bc vc ws nb (cs.set i c') := by
  have hnd := h.nod
  simp only [foot, List.nodup_cons, List.mem_cons, List.mem_map, not_or, not_exists, not_and] at hnd
  obtain ⟨⟨n1, n2⟩, n3, n4⟩ := hnd
  have hwm := List.mem_of_getElem? hw
  have hlt := h.lt w.1 (h.mem hw)
  refine ⟨?_, ?_, by rw [List.length_set]; exact h.len, fun j u d hu hd => ?_, h.nod, by rw [List.length_set]; exact h.some'⟩
  · rw [List.getElem?_set_ne (fun e => n2 w hwm e), List.length_set]; exact h.box
  · rw [List.getElem?_set_ne (fun e => n3 w hwm e)]; exact h.rows
  · by_cases hj : j = i
    · subst hj
      rw [hw] at hu; cases hu
      rw [List.getElem?_set_self (List.getElem?_eq_some_iff.1 hc).1] at hd; cases hd
      exact ⟨List.getElem?_set_self hlt, hl⟩
    · rw [List.getElem?_set_ne (fun e => hj e.symm)] at hd
      have hne : w.1 ≠ u.1 := fun e => by
        have h1 : (ws.map (·.1))[i]? = some w.1 := by rw [List.getElem?_map, hw]; rfl
        have h2 : (ws.map (·.1))[j]? = some w.1 := by rw [List.getElem?_map, hu, e]; rfl
        exact hj ((List.getElem?_inj (List.getElem?_eq_some_iff.1 h2).1 n4).1 (h2.trans h1.symm))
      rw [List.getElem?_set_ne hne]
      exact h.blk j u d hu hd
end
end Go.Proofs.Ytehcdcnghcbimaa.Code
