/- Areas: reads. -/
import Derived.Test.YtehcdcnghcbimaaHa
set_option linter.unusedSimpArgs false
set_option linter.unusedVariables false
namespace Go.Proofs.Ytehcdcnghcbimaa.Code
open Go.Proofs.Ytehcdcnghcbimaa.Ev

/-- what Read answers -/
def readA (cs : List (List Bk)) (nb : Nat) (n : Int) : ByteArray × Int :=
  if okBlk nb n then (match cs.find? (well' n.toNat) with
    | some c => ((bkAt c n.toNat).1, 0)
    | none => (⟨#[]⟩, 213)) else (⟨#[]⟩, 2)
section
variable {tA tC tB : Nat} {H : Heap} {ba bc vc : Nat} {ws : Ws} {nb : Nat} {cs : List (List Bk)}
theorem f61 (h : Ar tA tC tB H ba bc vc ws nb cs) (n : Nat) (hn : n < nb) : cal (evC cprog) false 61 [.ptr ba 0 1 0 0, .int .i64 (n : Int)] H = some (.int .i64 (idxOf (well' n) cs), H) := by
  have hs := h.some'
  have hrows : (ws.zip cs).map (fun x => rW nb x.1) = ws.map (rW nb) := by
    have : (fun (x : (Nat × Nat) × List Bk) => rW nb x.1) = (rW nb) ∘ Prod.fst := rfl
    rw [this, ← List.map_map, List.map_fst_zip (by have := h.len; omega)]
  have h77 := indexFunc_ok (sz := 1) (ag := false) at77 (fun (x : (Nat × Nat) × List Bk) => rW nb x.1) (fun x => .ref x.1.1 x.1.2 2 0 nb) (fun x => ⟨rfl, rfl, rfl⟩) 78 [.ptr H.length 0 1 0 0] (fun x => well' n x.2)
    (H ++ [⟨0, true, 3, 1, [[.int .i64 (n : Int)]]⟩]) (.ref bc vc 1 0 cs.length) (ws.zip cs) (by rw [hrows]; exact h.slRows.app _) (by rw [List.length_zip]; omega) fun x hx => by
      obtain ⟨i, hi⟩ := List.getElem?_of_mem hx
      rw [List.getElem?_zip_eq_some] at hi
      exact f78 x.1.1 x.1.2 nb x.2 n hn (h.blk i x.1 x.2 hi.1 hi.2).2 H.length _ ((h.slBlk hi.1 hi.2).app _) fun X => by simp only [evR, Nat.reduceAdd, Nat.reduceLT, Nat.reduceLeDiff, reduceIte, Nat.reduceEqDiff, reduceCtorEq, argEnv, eq_self, if_true, if_false]
  have hix : idxOf (fun (x : (Nat × Nat) × List Bk) => well' n x.2) (ws.zip cs) = idxOf (well' n) cs := by
    unfold idxOf
    rw [idxOf_congr (fun (x : (Nat × Nat) × List Bk) => well' n x.2) (well' n) (ws.zip cs) cs (by rw [List.length_zip]; have := h.len; omega) fun i x y hx hy => by
      rw [List.getElem?_zip_eq_some] at hx
      rw [hx.2] at hy; cases hy; rfl]
  rw [hix] at h77
  have hbox := h.boxx
  have hsc : ∀ b v s i o, AV.scal (.ptr b v s i o) = true := fun _ _ _ _ _ => rfl
  rw [cal_of at61]
  simp only [c61, nck, hbox, hsc, h77, evX, Int.reduceEq, Int.reduceLT, Int.reduceLE, Nat.reduceMul, Nat.reduceMod, evW, fn_eq, evR, Nat.reduceAdd, Nat.reduceLT, Nat.reduceLeDiff, reduceIte, Nat.reduceEqDiff, reduceCtorEq, argEnv, eq_self, if_true, if_false]
  repeat' (first | (rw [guardK_cases]; split <;> simp only [c61, nck, hbox, hsc, h77, evX, Int.reduceEq, Int.reduceLT, Int.reduceLE, Nat.reduceMul, Nat.reduceMod, evW, evR, Nat.reduceAdd, Nat.reduceLT, Nat.reduceLeDiff, reduceIte, Nat.reduceEqDiff, reduceCtorEq, argEnv, eq_self, if_true, if_false, *]) | (rw [condK_bool]; split <;> simp only [c61, nck, hbox, hsc, h77, evX, Int.reduceEq, Int.reduceLT, Int.reduceLE, Nat.reduceMul, Nat.reduceMod, evW, evR, Nat.reduceAdd, Nat.reduceLT, Nat.reduceLeDiff, reduceIte, Nat.reduceEqDiff, reduceCtorEq, argEnv, eq_self, if_true, if_false, *]) | (rw [guardD_cases]; split <;> simp only [c61, nck, hbox, hsc, h77, evX, Int.reduceEq, Int.reduceLT, Int.reduceLE, Nat.reduceMul, Nat.reduceMod, evW, evR, Nat.reduceAdd, Nat.reduceLT, Nat.reduceLeDiff, reduceIte, Nat.reduceEqDiff, reduceCtorEq, argEnv, eq_self, if_true, if_false, *]))
theorem find_ix (p : List Bk → Bool) (cs : List (List Bk)) : (cs.find? p = none ∧ idxOf p cs = -1) ∨ ∃ (i : Nat) (c : List Bk), cs.find? p = some c ∧ idxOf p cs = i ∧ cs[i]? = some c ∧ p c = true := by
  unfold idxOf
  cases hx : cs.findIdx? p with
  | none =>
    refine .inl ⟨?_, rfl⟩
    rw [List.find?_eq_none]
    rw [List.findIdx?_eq_none_iff] at hx
    intro x hm
    simp [hx x hm]
  | some i =>
    obtain ⟨h1, h2, h3⟩ := List.findIdx?_eq_some_iff_getElem.1 hx
    refine .inr ⟨i, cs[i], ?_, rfl, List.getElem?_eq_getElem h1, h2⟩
    rw [List.find?_eq_some_iff_getElem]
    exact ⟨h2, i, h1, rfl, fun j hj => by simpa using h3 j hj⟩
theorem f32 (h : Ar tA tC tB H ba bc vc ws nb cs) (n : Int) : cal (evC cprog) false 32 [.ptr ba 0 1 0 0, .int .i64 n] H = some (.tup [.str (readA cs nb n).1, .int .i64 (readA cs nb n).2], H) := by
  have h60 := f60 h n
  rw [cal_of at32]
  by_cases hk : okBlk nb n
  · rw [if_pos hk] at h60
    obtain ⟨n, rfl⟩ : ∃ k : Nat, n = k := ⟨n.toNat, by have := hk.1; omega⟩
    have hn : n < nb := by have := hk.2; omega
    have h61 := f61 h n hn
    rcases find_ix (well' n) cs with ⟨hf, hi⟩ | ⟨i, c, hf, hi, hc, hw⟩
    · have ha : readA cs nb n = (⟨#[]⟩, 213) := by simp only [readA, if_pos hk, Int.toNat_natCast, hf]
      rw [ha]
      rw [hi] at h61
      have hm : ((-1 : Int) < 0) = True := by simp
      simp only [c32, h60, h61, hm, evX, Int.reduceEq, Int.reduceLT, Int.reduceLE, Nat.reduceMul, Nat.reduceMod, evW, fn_eq, evR, Nat.reduceAdd, Nat.reduceLT, Nat.reduceLeDiff, reduceIte, Nat.reduceEqDiff, reduceCtorEq, argEnv, eq_self, if_true, if_false]
      repeat' (first | (rw [guardK_cases]; split <;> simp only [c32, h60, h61, hm, evX, Int.reduceEq, Int.reduceLT, Int.reduceLE, Nat.reduceMul, Nat.reduceMod, evW, evR, Nat.reduceAdd, Nat.reduceLT, Nat.reduceLeDiff, reduceIte, Nat.reduceEqDiff, reduceCtorEq, argEnv, eq_self, if_true, if_false, *]) | (rw [condK_bool]; split <;> simp only [c32, h60, h61, hm, evX, Int.reduceEq, Int.reduceLT, Int.reduceLE, Nat.reduceMul, Nat.reduceMod, evW, evR, Nat.reduceAdd, Nat.reduceLT, Nat.reduceLeDiff, reduceIte, Nat.reduceEqDiff, reduceCtorEq, argEnv, eq_self, if_true, if_false, *]) | (rw [guardD_cases]; split <;> simp only [c32, h60, h61, hm, evX, Int.reduceEq, Int.reduceLT, Int.reduceLE, Nat.reduceMul, Nat.reduceMod, evW, evR, Nat.reduceAdd, Nat.reduceLT, Nat.reduceLeDiff, reduceIte, Nat.reduceEqDiff, reduceCtorEq, argEnv, eq_self, if_true, if_false, *]))
    · have ha : readA cs nb n = ((bkAt c n).1, 0) := by simp only [readA, if_pos hk, Int.toNat_natCast, hf]
      rw [ha]
      rw [hi] at h61
      have hm : ¬ (i : Int) < 0 := by omega
      obtain ⟨w, p, _, hp, hat, hs2, hcl⟩ := h.row hc
      obtain ⟨_, q, hq, hqt⟩ := hs2.get n (rBk (bkAt c n)) (by rw [List.getElem?_map, bk_get (by omega)]; rfl)
      have hfl := hqt.fld 0 1
      simp only [rBk, List.getElem?_cons_zero] at hfl
      have hfa := hqt.faddr 0
      have hbox := h.box
      simp only [c32, h60, h61, hm, nck, hbox, hp, hat.one, hq, hfa, hfl, evX, Int.reduceEq, Int.reduceLT, Int.reduceLE, Nat.reduceMul, Nat.reduceMod, evW, fn_eq, evR, Nat.reduceAdd, Nat.reduceLT, Nat.reduceLeDiff, reduceIte, Nat.reduceEqDiff, reduceCtorEq, argEnv, eq_self, if_true, if_false]
      repeat' (first | (rw [guardK_cases]; split <;> simp only [c32, h60, h61, hm, nck, hbox, hp, hat.one, hq, hfa, hfl, evX, Int.reduceEq, Int.reduceLT, Int.reduceLE, Nat.reduceMul, Nat.reduceMod, evW, evR, Nat.reduceAdd, Nat.reduceLT, Nat.reduceLeDiff, reduceIte, Nat.reduceEqDiff, reduceCtorEq, argEnv, eq_self, if_true, if_false, *]) | (rw [condK_bool]; split <;> simp only [c32, h60, h61, hm, nck, hbox, hp, hat.one, hq, hfa, hfl, evX, Int.reduceEq, Int.reduceLT, Int.reduceLE, Nat.reduceMul, Nat.reduceMod, evW, evR, Nat.reduceAdd, Nat.reduceLT, Nat.reduceLeDiff, reduceIte, Nat.reduceEqDiff, reduceCtorEq, argEnv, eq_self, if_true, if_false, *]) | (rw [guardD_cases]; split <;> simp only [c32, h60, h61, hm, nck, hbox, hp, hat.one, hq, hfa, hfl, evX, Int.reduceEq, Int.reduceLT, Int.reduceLE, Nat.reduceMul, Nat.reduceMod, evW, evR, Nat.reduceAdd, Nat.reduceLT, Nat.reduceLeDiff, reduceIte, Nat.reduceEqDiff, reduceCtorEq, argEnv, eq_self, if_true, if_false, *]))
  · rw [if_neg hk] at h60
    have ha : readA cs nb n = (⟨#[]⟩, 2) := by simp only [readA, if_neg hk]
    rw [ha]
    simp only [c32, h60, evX, Int.reduceEq, Int.reduceLT, Int.reduceLE, Nat.reduceMul, Nat.reduceMod, evW, fn_eq, evR, Nat.reduceAdd, Nat.reduceLT, Nat.reduceLeDiff, reduceIte, Nat.reduceEqDiff, reduceCtorEq, argEnv, eq_self, if_true, if_false]
    repeat' (first | (rw [guardK_cases]; split <;> simp only [c32, h60, evX, Int.reduceEq, Int.reduceLT, Int.reduceLE, Nat.reduceMul, Nat.reduceMod, evW, evR, Nat.reduceAdd, Nat.reduceLT, Nat.reduceLeDiff, reduceIte, Nat.reduceEqDiff, reduceCtorEq, argEnv, eq_self, if_true, if_false, *]) | (rw [condK_bool]; split <;> simp only [c32, h60, evX, Int.reduceEq, Int.reduceLT, Int.reduceLE, Nat.reduceMul, Nat.reduceMod, evW, evR, Nat.reduceAdd, Nat.reduceLT, Nat.reduceLeDiff, reduceIte, Nat.reduceEqDiff, reduceCtorEq, argEnv, eq_self, if_true, if_false, *]) | (rw [guardD_cases]; split <;> simp only [c32, h60, evX, Int.reduceEq, Int.reduceLT, Int.reduceLE, Nat.reduceMul, Nat.reduceMod, evW, evR, Nat.reduceAdd, Nat.reduceLT, Nat.reduceLeDiff, reduceIte, Nat.reduceEqDiff, reduceCtorEq, argEnv, eq_self, if_true, if_false, *]))
theorem f33 (h : Ar tA tC tB H ba bc vc ws nb cs) (n : Int) : cal (evC cprog) false 33 [.ptr ba 0 1 0 0, .int .i64 n] H = some (.tup [.str (readA cs nb n).1, .int .i64 (readA cs nb n).2], H) := by
  have h62 := f62 h n
  have hs := h.some'
  rw [cal_of at33]
  by_cases hk : okBlk nb n
  · rw [decide_eq_true hk] at h62
    obtain ⟨n, rfl⟩ : ∃ k : Nat, n = k := ⟨n.toNat, by have := hk.1; omega⟩
    have hn : n < nb := by have := hk.2; omega
    have hlp := fun z hz => scan_rule cs (fun _ c => !well' n c) [0, 1, 6] (fun i => [(0, .ptr ba 0 1 0 0), (1, .int .i64 (n : Int)), (6, .int .i64 (i : Int))]) H [] (evCode (evC cprog) itLim c33_l0) (fun x T => x = .exit 0) (fun _ c x T => x = .ret ∧ get T 4 = some (.str (bkAt c n).1) ∧ get T 5 = some (.int .i64 0))
      (fun i c hc E G hE => by
        have hlt : i < cs.length := (List.getElem?_eq_some_iff.1 hc).1
        have hi : (i : Int) < (cs.length : Int) := by omega
        obtain ⟨w, p, _, hp, hat, hs2, hcl⟩ := h.row hc
        obtain ⟨_, q, hq, hqt⟩ := hs2.get n (rBk (bkAt c n)) (by rw [List.getElem?_map, bk_get (by omega)]; rfl)
        have hf1 := fun X => hqt.fldx 1 1 X
        have hf0 := fun X => hqt.fldx 0 1 X
        simp only [rBk, List.getElem?_cons_succ, List.getElem?_cons_zero] at hf1 hf0
        have hfa1 := hqt.faddr 1
        have hfa0 := hqt.faddr 0
        have hbox := h.boxx
        cases hb : (bkAt c n).2 with
        | true =>
          rw [hb] at hf1
          simp only [c33_l0, hE, nck, hbox, hi, hp, hat.onex, hq, hfa1, hf1, wrapS hlt (by omega : cs.length < 9223372036854775807), evX, Int.reduceEq, Int.reduceLT, Int.reduceLE, Nat.reduceMul, Nat.reduceMod, evW, fn_eq, evR, Nat.reduceAdd, Nat.reduceLT, Nat.reduceLeDiff, reduceIte, Nat.reduceEqDiff, reduceCtorEq, argEnv, eq_self, if_true, if_false]
          repeat' (first | (rw [guardK_cases]; split <;> simp only [c33_l0, hE, nck, hbox, hi, hp, hat.onex, hq, hfa1, hf1, wrapS hlt (by omega : cs.length < 9223372036854775807), evX, Int.reduceEq, Int.reduceLT, Int.reduceLE, Nat.reduceMul, Nat.reduceMod, evW, evR, Nat.reduceAdd, Nat.reduceLT, Nat.reduceLeDiff, reduceIte, Nat.reduceEqDiff, reduceCtorEq, argEnv, eq_self, if_true, if_false, *]) | (rw [condK_bool]; split <;> simp only [c33_l0, hE, nck, hbox, hi, hp, hat.onex, hq, hfa1, hf1, wrapS hlt (by omega : cs.length < 9223372036854775807), evX, Int.reduceEq, Int.reduceLT, Int.reduceLE, Nat.reduceMul, Nat.reduceMod, evW, evR, Nat.reduceAdd, Nat.reduceLT, Nat.reduceLeDiff, reduceIte, Nat.reduceEqDiff, reduceCtorEq, argEnv, eq_self, if_true, if_false, *]) | (rw [guardD_cases]; split <;> simp only [c33_l0, hE, nck, hbox, hi, hp, hat.onex, hq, hfa1, hf1, wrapS hlt (by omega : cs.length < 9223372036854775807), evX, Int.reduceEq, Int.reduceLT, Int.reduceLE, Nat.reduceMul, Nat.reduceMod, evW, evR, Nat.reduceAdd, Nat.reduceLT, Nat.reduceLeDiff, reduceIte, Nat.reduceEqDiff, reduceCtorEq, argEnv, eq_self, if_true, if_false, *]))
          exact Sc.next (K := []) (by simp [well', hb]) (by rfl)
        | false =>
          rw [hb] at hf1
          simp only [c33_l0, hE, nck, hbox, hi, hp, hat.onex, hq, hfa1, hf1, hfa0, hf0, evX, Int.reduceEq, Int.reduceLT, Int.reduceLE, Nat.reduceMul, Nat.reduceMod, evW, fn_eq, evR, Nat.reduceAdd, Nat.reduceLT, Nat.reduceLeDiff, reduceIte, Nat.reduceEqDiff, reduceCtorEq, argEnv, eq_self, if_true, if_false]
          repeat' (first | (rw [guardK_cases]; split <;> simp only [c33_l0, hE, nck, hbox, hi, hp, hat.onex, hq, hfa1, hf1, hfa0, hf0, evX, Int.reduceEq, Int.reduceLT, Int.reduceLE, Nat.reduceMul, Nat.reduceMod, evW, evR, Nat.reduceAdd, Nat.reduceLT, Nat.reduceLeDiff, reduceIte, Nat.reduceEqDiff, reduceCtorEq, argEnv, eq_self, if_true, if_false, *]) | (rw [condK_bool]; split <;> simp only [c33_l0, hE, nck, hbox, hi, hp, hat.onex, hq, hfa1, hf1, hfa0, hf0, evX, Int.reduceEq, Int.reduceLT, Int.reduceLE, Nat.reduceMul, Nat.reduceMod, evW, evR, Nat.reduceAdd, Nat.reduceLT, Nat.reduceLeDiff, reduceIte, Nat.reduceEqDiff, reduceCtorEq, argEnv, eq_self, if_true, if_false, *]) | (rw [guardD_cases]; split <;> simp only [c33_l0, hE, nck, hbox, hi, hp, hat.onex, hq, hfa1, hf1, hfa0, hf0, evX, Int.reduceEq, Int.reduceLT, Int.reduceLE, Nat.reduceMul, Nat.reduceMod, evW, evR, Nat.reduceAdd, Nat.reduceLT, Nat.reduceLeDiff, reduceIte, Nat.reduceEqDiff, reduceCtorEq, argEnv, eq_self, if_true, if_false, *]))
          exact Sc.ret (K := []) (by simp [well', hb]) ⟨rfl, rfl, rfl⟩)
      (fun E G hE => by
        have hbox := h.boxx
        simp only [c33_l0, hE, nck, hbox, Int.lt_irrefl, evX, Int.reduceEq, Int.reduceLT, Int.reduceLE, Nat.reduceMul, Nat.reduceMod, evW, fn_eq, evR, Nat.reduceAdd, Nat.reduceLT, Nat.reduceLeDiff, reduceIte, Nat.reduceEqDiff, reduceCtorEq, argEnv, eq_self, if_true, if_false]
        repeat' (first | (rw [guardK_cases]; split <;> simp only [c33_l0, hE, nck, hbox, Int.lt_irrefl, evX, Int.reduceEq, Int.reduceLT, Int.reduceLE, Nat.reduceMul, Nat.reduceMod, evW, evR, Nat.reduceAdd, Nat.reduceLT, Nat.reduceLeDiff, reduceIte, Nat.reduceEqDiff, reduceCtorEq, argEnv, eq_self, if_true, if_false, *]) | (rw [condK_bool]; split <;> simp only [c33_l0, hE, nck, hbox, Int.lt_irrefl, evX, Int.reduceEq, Int.reduceLT, Int.reduceLE, Nat.reduceMul, Nat.reduceMod, evW, evR, Nat.reduceAdd, Nat.reduceLT, Nat.reduceLeDiff, reduceIte, Nat.reduceEqDiff, reduceCtorEq, argEnv, eq_self, if_true, if_false, *]) | (rw [guardD_cases]; split <;> simp only [c33_l0, hE, nck, hbox, Int.lt_irrefl, evX, Int.reduceEq, Int.reduceLT, Int.reduceLE, Nat.reduceMul, Nat.reduceMod, evW, evR, Nat.reduceAdd, Nat.reduceLT, Nat.reduceLeDiff, reduceIte, Nat.reduceEqDiff, reduceCtorEq, argEnv, eq_self, if_true, if_false, *]))
        exact .exit (K := []) rfl) ([(6, .int .i64 0), (0, .ptr ba 0 1 0 0), (1, .int .i64 (n : Int))], H) [] (by rfl) (by simp) z hz
    simp only [c33, h62, evX, Int.reduceEq, Int.reduceLT, Int.reduceLE, Nat.reduceMul, Nat.reduceMod, evW, fn_eq, evR, Nat.reduceAdd, Nat.reduceLT, Nat.reduceLeDiff, reduceIte, Nat.reduceEqDiff, reduceCtorEq, argEnv, eq_self, if_true, if_false]
    repeat' (first | (rw [guardK_cases]; split <;> simp only [c33, h62, evX, Int.reduceEq, Int.reduceLT, Int.reduceLE, Nat.reduceMul, Nat.reduceMod, evW, evR, Nat.reduceAdd, Nat.reduceLT, Nat.reduceLeDiff, reduceIte, Nat.reduceEqDiff, reduceCtorEq, argEnv, eq_self, if_true, if_false, *]) | (rw [condK_bool]; split <;> simp only [c33, h62, evX, Int.reduceEq, Int.reduceLT, Int.reduceLE, Nat.reduceMul, Nat.reduceMod, evW, evR, Nat.reduceAdd, Nat.reduceLT, Nat.reduceLeDiff, reduceIte, Nat.reduceEqDiff, reduceCtorEq, argEnv, eq_self, if_true, if_false, *]) | (rw [guardD_cases]; split <;> simp only [c33, h62, evX, Int.reduceEq, Int.reduceLT, Int.reduceLE, Nat.reduceMul, Nat.reduceMod, evW, evR, Nat.reduceAdd, Nat.reduceLT, Nat.reduceLeDiff, reduceIte, Nat.reduceEqDiff, reduceCtorEq, argEnv, eq_self, if_true, if_false, *]))
    generalize hz : itLim _ _ = z
    rcases hlp z hz with ⟨ha, x, T, G, rfl, _, rfl⟩ | ⟨i, c, hc, hw, hfirst, x, T, G, rfl, _, rfl, hT⟩
    · have hf : cs.find? (well' n) = none := by
        rw [List.find?_eq_none]
        intro c hm
        obtain ⟨i, hi⟩ := List.getElem?_of_mem hm
        simpa using ha i c hi
      have ha : readA cs nb n = (⟨#[]⟩, 213) := by simp only [readA, if_pos hk, Int.toNat_natCast, hf]
      rw [ha]
      simp only [evX, Int.reduceEq, Int.reduceLT, Int.reduceLE, Nat.reduceMul, Nat.reduceMod, evW, fn_eq, evR, Nat.reduceAdd, Nat.reduceLT, Nat.reduceLeDiff, reduceIte, Nat.reduceEqDiff, reduceCtorEq, argEnv, eq_self, if_true, if_false]
      repeat' (first | (rw [guardK_cases]; split <;> simp only [evX, Int.reduceEq, Int.reduceLT, Int.reduceLE, Nat.reduceMul, Nat.reduceMod, evW, evR, Nat.reduceAdd, Nat.reduceLT, Nat.reduceLeDiff, reduceIte, Nat.reduceEqDiff, reduceCtorEq, argEnv, eq_self, if_true, if_false, *]) | (rw [condK_bool]; split <;> simp only [evX, Int.reduceEq, Int.reduceLT, Int.reduceLE, Nat.reduceMul, Nat.reduceMod, evW, evR, Nat.reduceAdd, Nat.reduceLT, Nat.reduceLeDiff, reduceIte, Nat.reduceEqDiff, reduceCtorEq, argEnv, eq_self, if_true, if_false, *]) | (rw [guardD_cases]; split <;> simp only [evX, Int.reduceEq, Int.reduceLT, Int.reduceLE, Nat.reduceMul, Nat.reduceMod, evW, evR, Nat.reduceAdd, Nat.reduceLT, Nat.reduceLeDiff, reduceIte, Nat.reduceEqDiff, reduceCtorEq, argEnv, eq_self, if_true, if_false, *]))
    · have hf : cs.find? (well' n) = some c := by
        rw [List.find?_eq_some_iff_getElem]
        obtain ⟨h1, h2⟩ := List.getElem?_eq_some_iff.1 hc
        exact ⟨by simpa using hw, i, h1, h2, fun j hj => by simpa using hfirst j _ hj (List.getElem?_eq_getElem (by omega))⟩
      have ha : readA cs nb n = ((bkAt c n).1, 0) := by simp only [readA, if_pos hk, Int.toNat_natCast, hf]
      rw [ha]
      simp only [hT.1, hT.2, evX, Int.reduceEq, Int.reduceLT, Int.reduceLE, Nat.reduceMul, Nat.reduceMod, evW, fn_eq, evR, Nat.reduceAdd, Nat.reduceLT, Nat.reduceLeDiff, reduceIte, Nat.reduceEqDiff, reduceCtorEq, argEnv, eq_self, if_true, if_false]
      repeat' (first | (rw [guardK_cases]; split <;> simp only [hT.1, hT.2, evX, Int.reduceEq, Int.reduceLT, Int.reduceLE, Nat.reduceMul, Nat.reduceMod, evW, evR, Nat.reduceAdd, Nat.reduceLT, Nat.reduceLeDiff, reduceIte, Nat.reduceEqDiff, reduceCtorEq, argEnv, eq_self, if_true, if_false, *]) | (rw [condK_bool]; split <;> simp only [hT.1, hT.2, evX, Int.reduceEq, Int.reduceLT, Int.reduceLE, Nat.reduceMul, Nat.reduceMod, evW, evR, Nat.reduceAdd, Nat.reduceLT, Nat.reduceLeDiff, reduceIte, Nat.reduceEqDiff, reduceCtorEq, argEnv, eq_self, if_true, if_false, *]) | (rw [guardD_cases]; split <;> simp only [hT.1, hT.2, evX, Int.reduceEq, Int.reduceLT, Int.reduceLE, Nat.reduceMul, Nat.reduceMod, evW, evR, Nat.reduceAdd, Nat.reduceLT, Nat.reduceLeDiff, reduceIte, Nat.reduceEqDiff, reduceCtorEq, argEnv, eq_self, if_true, if_false, *]))
  · rw [decide_eq_false hk] at h62
    have ha : readA cs nb n = (⟨#[]⟩, 2) := by simp only [readA, if_neg hk]
    rw [ha]
    simp only [c33, h62, evX, Int.reduceEq, Int.reduceLT, Int.reduceLE, Nat.reduceMul, Nat.reduceMod, evW, fn_eq, evR, Nat.reduceAdd, Nat.reduceLT, Nat.reduceLeDiff, reduceIte, Nat.reduceEqDiff, reduceCtorEq, argEnv, eq_self, if_true, if_false]
    repeat' (first | (rw [guardK_cases]; split <;> simp only [c33, h62, evX, Int.reduceEq, Int.reduceLT, Int.reduceLE, Nat.reduceMul, Nat.reduceMod, evW, evR, Nat.reduceAdd, Nat.reduceLT, Nat.reduceLeDiff, reduceIte, Nat.reduceEqDiff, reduceCtorEq, argEnv, eq_self, if_true, if_false, *]) | (rw [condK_bool]; split <;> simp only [c33, h62, evX, Int.reduceEq, Int.reduceLT, Int.reduceLE, Nat.reduceMul, Nat.reduceMod, evW, evR, Nat.reduceAdd, Nat.reduceLT, Nat.reduceLeDiff, reduceIte, Nat.reduceEqDiff, reduceCtorEq, argEnv, eq_self, if_true, if_false, *]) | (rw [guardD_cases]; split <;> simp only [c33, h62, evX, Int.reduceEq, Int.reduceLT, Int.reduceLE, Nat.reduceMul, Nat.reduceMod, evW, evR, Nat.reduceAdd, Nat.reduceLT, Nat.reduceLeDiff, reduceIte, Nat.reduceEqDiff, reduceCtorEq, argEnv, eq_self, if_true, if_false, *]))
end
end Go.Proofs.Ytehcdcnghcbimaa.Code
