/- plain: which fields and types are right, as the program asks. -/
import Derived.Test.YtcbmakanokmdjaaRa
set_option linter.unusedSimpArgs false
set_option linter.unusedVariables false
namespace Go.Proofs.Ytcbmakanokmdjaa.Code
open Go.Proofs.Ytcbmakanokmdjaa.Ev

theorem lFd (f : Fd) : Loads true 3 (rFd f) (.agg (rFd f)) := ⟨rfl, rfl⟩
theorem lTy (f : Ty) : Loads true 8 (rTy f) (.agg (rTy f)) := ⟨rfl, rfl⟩
theorem lSe (f : Se) : Loads true 4 (rSe f) (.agg (rSe f)) := ⟨rfl, rfl⟩
theorem lItem (f : Item) : Loads true 2 (rItem f) (.agg (rItem f)) := ⟨rfl, rfl⟩
theorem sLst {α : Type} (row : α → List AV) {sz : Nat} (hr : ∀ x, (row x).length = sz) (H : Heap) (l : List α) : SlAt H sz (.lst (l.map row)) (l.map row) := .lst fun r h => by
  obtain ⟨n, _, rfl⟩ := List.mem_map.1 h; exact hr n
theorem sFds (H : Heap) (l : List Fd) : SlAt H 3 (eFds l) (l.map rFd) := sLst rFd (fun _ => rfl) H l
theorem sTys (H : Heap) (l : List Ty) : SlAt H 8 (eTys l) (l.map rTy) := sLst rTy (fun _ => rfl) H l
theorem sSes (H : Heap) (l : List Se) : SlAt H 4 (eSes l) (l.map rSe) := sLst rSe (fun _ => rfl) H l
theorem sItems (H : Heap) (l : List Item) : SlAt H 2 (eItems l) (l.map rItem) := sLst rItem (fun _ => rfl) H l
theorem headOk_map {α : Type} (row : α → List AV) {sz : Nat} (hr : ∀ x, (row x).length = sz) (l : List α) : headOk sz (l.map row) = true := by
  cases l with
  | nil => rfl
  | cons x l => simp [headOk, hr]
theorem slc_take {α : Type} (row : α → List AV) {sz : Nat} (hr : ∀ x, (row x).length = sz) (H : Heap) (l : List α) {i : Nat} (hi : i ≤ l.length) : evSlc H sz (.lst (l.map row)) none (some i) none = some (.lst ((l.take i).map row)) := by
  simp [evSlc, headOk_map row hr, hi]
theorem slc_drop {α : Type} (row : α → List AV) {sz : Nat} (hr : ∀ x, (row x).length = sz) (H : Heap) (l : List α) {i : Nat} (hi : i ≤ l.length) : evSlc H sz (.lst (l.map row)) (some i) none none = some (.lst ((l.drop i).map row)) := by
  simp [evSlc, headOk_map row hr, hi, List.take_of_length_le]
theorem f91 (g f : Fd) (b : Nat) (H : Heap) (hb : H[b]? = some ⟨0, true, 79, 3, [rFd f]⟩) : cal (evC cprog) false 91 [.agg (rFd g), .ptr b 0 3 0 0] H = some (.bool (decide (g.name = f.name)), H) := by
  rw [cal_of at91]
  have hb' : ∀ X, (H ++ X)[b]? = some ⟨0, true, 79, 3, [rFd f]⟩ := fun X => by
    rw [List.getElem?_append_left (List.getElem?_eq_some_iff.1 hb).1]; exact hb
  simp only [rFd] at hb'
  simp only [c91, rFd, hb', evX, Int.reduceEq, Int.reduceLT, Int.reduceLE, Nat.reduceMul, Nat.reduceMod, evW, fn_eq, evR, Nat.reduceAdd, Nat.reduceLT, Nat.reduceLeDiff, reduceIte, Nat.reduceEqDiff, reduceCtorEq, argEnv, eq_self, if_true, if_false]
  repeat' ((first | rw [guardK_cases] | rw [condK_bool] | rw [guardD_cases]); split <;> simp only [c91, rFd, hb', evX, Int.reduceEq, Int.reduceLT, Int.reduceLE, Nat.reduceMul, Nat.reduceMod, evW, evR, Nat.reduceAdd, Nat.reduceLT, Nat.reduceLeDiff, reduceIte, Nat.reduceEqDiff, reduceCtorEq, argEnv, eq_self, if_true, if_false, *])
theorem f90 (l : List Fd) (hl : l.length < 9223372036854775807) (f : Fd) (b : Nat) (H : Heap) (hb : H[b]? = some ⟨0, true, 79, 3, [rFd f]⟩) : cal (evC cprog) false 90 [eFds l, .fn 91 [.ptr b 0 3 0 0]] H = some (.bool (l.any fun g => decide (g.name = f.name)), H) :=
  containsFunc_ok (g := 92) at90 (indexFunc_ok (sz := 3) (ag := true) at92 _ _ lFd 91 [_] _ H _ l (sFds H l) hl fun g _ => f91 g f b H hb)
noncomputable def fldOk (size : Int) (l : List Fd) (i : Nat) (f : Fd) : Bool :=
  isName f.name && decide (0 ≤ f.at') && decide (f.at' < size) && decide (1 ≤ f.bytes) && decide (f.bytes ≤ size - f.at') && !((l.take i).any fun g => decide (g.name = f.name))
noncomputable def fldsOk (size : Int) (l : List Fd) : Bool := tell (∀ (i : Nat) (f : Fd), l[i]? = some f → fldOk size l i f = true)
theorem wrapD {a b : Int} (ha : 0 ≤ a) (ha' : a ≤ 9223372036854775807) (hb : 0 ≤ b) (hb' : b ≤ 9223372036854775807) : IntKind.i64.wrap (a - b) = a - b := wrap_i64 (by omega) (by omega)
theorem f86 (l : List Fd) (hl : l.length < 9223372036854775807) (hf : ∀ f ∈ l, f.Ok) (size : Int) (h0 : 1 ≤ size) (h1 : size ≤ 40) (H : Heap) :
    cal (evC cprog) false 86 [eFds l, .int .i64 size] H = some (.bool (fldsOk size l && decide ((l.length : Int) ≤ 5)), H) := by
  rw [cal_of at86]
  have hlen := (sFds H l).len
  simp only [List.length_map] at hlen
  simp only [c86, hlen, evX, Int.reduceEq, Int.reduceLT, Int.reduceLE, Nat.reduceMul, Nat.reduceMod, evW, fn_eq, evR, Nat.reduceAdd, Nat.reduceLT, Nat.reduceLeDiff, reduceIte, Nat.reduceEqDiff, reduceCtorEq, argEnv, eq_self, if_true, if_false]
  repeat' ((first | rw [guardK_cases] | rw [condK_bool] | rw [guardD_cases]); split <;> simp only [c86, hlen, evX, Int.reduceEq, Int.reduceLT, Int.reduceLE, Nat.reduceMul, Nat.reduceMod, evW, evR, Nat.reduceAdd, Nat.reduceLT, Nat.reduceLeDiff, reduceIte, Nat.reduceEqDiff, reduceCtorEq, argEnv, eq_self, if_true, if_false, *])
  generalize hz : itLim _ _ = z
  have L := scan_rule l (fldOk size l) [0, 1, 7, 8, 9] (fun i => [(0, eFds l), (1, .int .i64 size), (7, eFds l), (8, .int .i64 (l.length : Int)), (9, .int .i64 (i : Int))]) H [] (evCode (evC cprog) itLim c86_l0) (fun c T => c = .exit 0 ∧ keepEnv T [0] = [(0, eFds l)]) (fun _ _ c T => c = .ret ∧ get T 4 = some (.bool false))
    (fun i f hx E G hE => by
      have hlt : i < l.length := (List.getElem?_eq_some_iff.1 hx).1
      have hi : (i : Int) < (l.length : Int) := by omega
      have hok := hf f (List.mem_of_getElem? hx)
      obtain ⟨_, p, hp, hat⟩ := (sFds (H ++ G) l).get i (rFd f) (by rw [List.getElem?_map, hx]; rfl)
      have hc := f90 (l.take i) (by rw [List.length_take]; omega) f (H.length + G.length) (H ++ (G ++ [⟨0, true, 79, 3, [rFd f]⟩])) (by simp)
      have hs := fun H => slc_take rFd (sz := 3) (fun _ => rfl) H l (i := i) (by omega)
      have hn := f54 f.name hok.name
      change ∀ H, evSlc H 3 (eFds l) none (some i) none = some (eFds (l.take i)) at hs
      simp only [rFd] at hat hc
      by_cases hneg : f.at' < 0
      · simp only [c86_l0, hE, hi, hp, hat.agg (n := 3) rfl, hs, hc, hn, hneg, wrapS hlt hl, evX, Int.reduceEq, Int.reduceLT, Int.reduceLE, Nat.reduceMul, Nat.reduceMod, evW, fn_eq, evR, Nat.reduceAdd, Nat.reduceLT, Nat.reduceLeDiff, reduceIte, Nat.reduceEqDiff, reduceCtorEq, argEnv, eq_self, if_true, if_false]
        repeat' ((first | rw [guardK_cases] | rw [condK_bool] | rw [guardD_cases]); split <;> simp only [c86_l0, hE, hi, hp, hat.agg (n := 3) rfl, hs, hc, hn, hneg, wrapS hlt hl, evX, Int.reduceEq, Int.reduceLT, Int.reduceLE, Nat.reduceMul, Nat.reduceMod, evW, evR, Nat.reduceAdd, Nat.reduceLT, Nat.reduceLeDiff, reduceIte, Nat.reduceEqDiff, reduceCtorEq, argEnv, eq_self, if_true, if_false, *])
        all_goals first | exact Sc.next (by first | (simp_all [fldOk]; done) | (simp_all [fldOk]; intros; omega)) (by rfl) | exact Sc.ret (by first | (simp_all [fldOk]; done) | (simp_all [fldOk]; intros; omega)) ⟨rfl, by first | rfl | exact ⟨rfl, rfl, rfl⟩⟩ | exact Sc.exit (by first | (simp_all [fldOk]; done) | (simp_all [fldOk]; intros; omega)) ⟨rfl, rfl⟩
      · by_cases hbig : size ≤ f.at'
        · simp only [c86_l0, hE, hi, hp, hat.agg (n := 3) rfl, hs, hc, hn, hneg, hbig, wrapS hlt hl, evX, Int.reduceEq, Int.reduceLT, Int.reduceLE, Nat.reduceMul, Nat.reduceMod, evW, fn_eq, evR, Nat.reduceAdd, Nat.reduceLT, Nat.reduceLeDiff, reduceIte, Nat.reduceEqDiff, reduceCtorEq, argEnv, eq_self, if_true, if_false]
          repeat' ((first | rw [guardK_cases] | rw [condK_bool] | rw [guardD_cases]); split <;> simp only [c86_l0, hE, hi, hp, hat.agg (n := 3) rfl, hs, hc, hn, hneg, hbig, wrapS hlt hl, evX, Int.reduceEq, Int.reduceLT, Int.reduceLE, Nat.reduceMul, Nat.reduceMod, evW, evR, Nat.reduceAdd, Nat.reduceLT, Nat.reduceLeDiff, reduceIte, Nat.reduceEqDiff, reduceCtorEq, argEnv, eq_self, if_true, if_false, *])
          all_goals first | exact Sc.next (by first | (simp_all [fldOk]; done) | (simp_all [fldOk]; intros; omega)) (by rfl) | exact Sc.ret (by first | (simp_all [fldOk]; done) | (simp_all [fldOk]; intros; omega)) ⟨rfl, by first | rfl | exact ⟨rfl, rfl, rfl⟩⟩ | exact Sc.exit (by first | (simp_all [fldOk]; done) | (simp_all [fldOk]; intros; omega)) ⟨rfl, rfl⟩
        · have hw := wrapD (a := size) (b := f.at') (by omega) (by omega) (by omega) (by omega)
          simp only [c86_l0, hE, hi, hp, hat.agg (n := 3) rfl, hs, hc, hn, hneg, hbig, hw, wrapS hlt hl, evX, Int.reduceEq, Int.reduceLT, Int.reduceLE, Nat.reduceMul, Nat.reduceMod, evW, fn_eq, evR, Nat.reduceAdd, Nat.reduceLT, Nat.reduceLeDiff, reduceIte, Nat.reduceEqDiff, reduceCtorEq, argEnv, eq_self, if_true, if_false]
          repeat' ((first | rw [guardK_cases] | rw [condK_bool] | rw [guardD_cases]); split <;> simp only [c86_l0, hE, hi, hp, hat.agg (n := 3) rfl, hs, hc, hn, hneg, hbig, hw, wrapS hlt hl, evX, Int.reduceEq, Int.reduceLT, Int.reduceLE, Nat.reduceMul, Nat.reduceMod, evW, evR, Nat.reduceAdd, Nat.reduceLT, Nat.reduceLeDiff, reduceIte, Nat.reduceEqDiff, reduceCtorEq, argEnv, eq_self, if_true, if_false, *])
          all_goals first | exact Sc.next (by first | (simp_all [fldOk]; done) | (simp_all [fldOk]; intros; omega)) (by rfl) | exact Sc.ret (by first | (simp_all [fldOk]; done) | (simp_all [fldOk]; intros; omega)) ⟨rfl, by first | rfl | exact ⟨rfl, rfl, rfl⟩⟩ | exact Sc.exit (by first | (simp_all [fldOk]; done) | (simp_all [fldOk]; intros; omega)) ⟨rfl, rfl⟩)
    (fun E G hE => by
      simp only [c86_l0, hE, Int.lt_irrefl, evX, Int.reduceEq, Int.reduceLT, Int.reduceLE, Nat.reduceMul, Nat.reduceMod, evW, fn_eq, evR, Nat.reduceAdd, Nat.reduceLT, Nat.reduceLeDiff, reduceIte, Nat.reduceEqDiff, reduceCtorEq, argEnv, eq_self, if_true, if_false]
      repeat' ((first | rw [guardK_cases] | rw [condK_bool] | rw [guardD_cases]); split <;> simp only [c86_l0, hE, Int.lt_irrefl, evX, Int.reduceEq, Int.reduceLT, Int.reduceLE, Nat.reduceMul, Nat.reduceMod, evW, evR, Nat.reduceAdd, Nat.reduceLT, Nat.reduceLeDiff, reduceIte, Nat.reduceEqDiff, reduceCtorEq, argEnv, eq_self, if_true, if_false, *])
      exact .exit (K := []) ⟨rfl, by rfl⟩) _ [] (by rfl) (by simp) z hz
  rcases L with ⟨ha, c, T, G, rfl, _, rfl, hT⟩ | ⟨i, r, hx, ha, _, c, T, G, rfl, _, rfl, hT⟩
  · have hlen' := (sFds (H ++ G) l).len
    simp only [List.length_map] at hlen'
    simp only [hT, hlen', evX, Int.reduceEq, Int.reduceLT, Int.reduceLE, Nat.reduceMul, Nat.reduceMod, evW, fn_eq, evR, Nat.reduceAdd, Nat.reduceLT, Nat.reduceLeDiff, reduceIte, Nat.reduceEqDiff, reduceCtorEq, argEnv, eq_self, if_true, if_false]
    repeat' ((first | rw [guardK_cases] | rw [condK_bool] | rw [guardD_cases]); split <;> simp only [hT, hlen', evX, Int.reduceEq, Int.reduceLT, Int.reduceLE, Nat.reduceMul, Nat.reduceMod, evW, evR, Nat.reduceAdd, Nat.reduceLT, Nat.reduceLeDiff, reduceIte, Nat.reduceEqDiff, reduceCtorEq, argEnv, eq_self, if_true, if_false, *])
    all_goals (simp_all [fldsOk, tell_pos]; try (intros; omega))
  · have : fldsOk size l = false := tell_neg fun h => by rw [h i r hx] at ha; cases ha
    simp only [hT, evX, Int.reduceEq, Int.reduceLT, Int.reduceLE, Nat.reduceMul, Nat.reduceMod, evW, fn_eq, evR, Nat.reduceAdd, Nat.reduceLT, Nat.reduceLeDiff, reduceIte, Nat.reduceEqDiff, reduceCtorEq, argEnv, eq_self, if_true, if_false]
    repeat' ((first | rw [guardK_cases] | rw [condK_bool] | rw [guardD_cases]); split <;> simp only [hT, evX, Int.reduceEq, Int.reduceLT, Int.reduceLE, Nat.reduceMul, Nat.reduceMod, evW, evR, Nat.reduceAdd, Nat.reduceLT, Nat.reduceLeDiff, reduceIte, Nat.reduceEqDiff, reduceCtorEq, argEnv, eq_self, if_true, if_false, *])
    rw [this]; rfl
end Go.Proofs.Ytcbmakanokmdjaa.Code
