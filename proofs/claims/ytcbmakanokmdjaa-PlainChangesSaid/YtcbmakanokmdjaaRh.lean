/- plain: fields of a type, as the document asks. -/
import Derived.Test.YtcbmakanokmdjaaRg
set_option linter.unusedSimpArgs false
set_option linter.unusedVariables false
namespace Go.Proofs.Ytcbmakanokmdjaa.Code
open Go.Proofs.Ytcbmakanokmdjaa.Ev

/-- a block that stays where it is -/
def Sits (H : Heap) (n : Nat) (k : Blk) : Prop := ∀ X, (H ++ X)[n]? = some k
theorem Sits.mk {H : Heap} {n : Nat} {k : Blk} (h : H[n]? = some k) : Sits H n k := fun X => by
  rw [List.getElem?_append_left (List.getElem?_eq_some_iff.1 h).1]; exact h
theorem Sits.at {H : Heap} {n : Nat} {k : Blk} (h : Sits H n k) : H[n]? = some k := by simpa using h []
def bTy (t : Ty) : Blk := ⟨0, true, 61, 8, [rTy t]⟩
def bFd (t : Fd) : Blk := ⟨0, true, 79, 3, [rFd t]⟩
def bSe (t : Se) : Blk := ⟨0, true, 75, 4, [rSe t]⟩
def bBase (b : Base) : Blk := ⟨0, true, 25, 4, [[.str b.name, .int .i64 b.kind, eTys b.types, eSes b.indexes]]⟩
theorem any_take {α : Type} {p : α → Bool} {l : List α} {i : Nat} : (∀ (k : Nat) (x : α), (l.take i)[k]? = some x → (!p x) = true) ↔ ((l.take i).any p) = false := by
  rw [List.any_eq_false]
  constructor
  · intro h x hx
    obtain ⟨k, hk⟩ := List.getElem?_of_mem hx
    simpa using h k x hk
  · intro h k x hx
    simpa using h x (List.mem_of_getElem? hx)
theorem l61 (t : Ty) (f : Fd) (i : Nat) (hi : i < t.fields.length) (hl : t.fields.length < 9223372036854775807) (H : Heap) (b1 b2 : Nat) (h1 : Sits H b1 (bTy t)) (h2 : Sits H b2 (bFd f)) (st : St) (G : Heap)
    (hE : keepEnv st.1 [1, 3, 4, 5] = [(1, .ptr b1 0 8 0 0), (3, .int .i64 (i : Int)), (4, .ptr b2 0 3 0 0), (5, .int .i64 0)]) (hH : st.2 = H ++ ([] ++ G)) (z : Option (CX × St)) (hz : itLim (evCode (evC cprog) itLim c61_l0) st = z) :
    ((t.fields.take i).any (fun g => decide (g.name = f.name)) = false ∧ Lv H [] (fun c T => c = .exit 2 ∧ keepEnv T [1, 3] = [(1, .ptr b1 0 8 0 0), (3, .int .i64 (i : Int))]) z) ∨
    ((t.fields.take i).any (fun g => decide (g.name = f.name)) = true ∧ Lv H [] (fun c T => c = .ret ∧ get T 2 = some (.bool false)) z) := by
  have L := all_rule (t.fields.take i) (fun g => !decide (g.name = f.name)) [1, 3, 4, 5] (fun k => [(1, .ptr b1 0 8 0 0), (3, .int .i64 (i : Int)), (4, .ptr b2 0 3 0 0), (5, .int .i64 (k : Int))]) H [] (evCode (evC cprog) itLim c61_l0)
    (fun c T => c = .exit 2 ∧ keepEnv T [1, 3] = [(1, .ptr b1 0 8 0 0), (3, .int .i64 (i : Int))]) (fun c T => c = .ret ∧ get T 2 = some (.bool false))
    (fun k g hg E G hE => by
      have hk : k < i := by have := (List.getElem?_eq_some_iff.1 hg).1; rw [List.length_take] at this; omega
      rw [List.getElem?_take, if_pos hk] at hg
      have hki : (k : Int) < (i : Int) := by omega
      have ha := aFd hg
      simp only [bTy, bFd, rTy, rFd, Sits] at h1 h2
      simp only [c61_l0, hE, hki, ha, h1, h2, rFd, wrapS hk (by omega), evX, Int.reduceEq, Int.reduceLT, Int.reduceLE, Nat.reduceMul, Nat.reduceMod, evW, fn_eq, evR, Nat.reduceAdd, Nat.reduceLT, Nat.reduceLeDiff, reduceIte, Nat.reduceEqDiff, reduceCtorEq, argEnv, eq_self, if_true, if_false]
      repeat' ((first | rw [guardK_cases] | rw [condK_bool] | rw [guardD_cases]); split <;> simp only [c61_l0, hE, hki, ha, h1, h2, rFd, wrapS hk (by omega), evX, Int.reduceEq, Int.reduceLT, Int.reduceLE, Nat.reduceMul, Nat.reduceMod, evW, evR, Nat.reduceAdd, Nat.reduceLT, Nat.reduceLeDiff, reduceIte, Nat.reduceEqDiff, reduceCtorEq, argEnv, eq_self, if_true, if_false, *])
      all_goals first | exact Sc.next (by first | (simp_all [eq_comm]; done) | (simp_all [eq_comm]; intros; omega)) (by rfl) | exact Sc.ret (by first | (simp_all [eq_comm]; done) | (simp_all [eq_comm]; intros; omega)) ⟨rfl, by first | rfl | exact ⟨rfl, rfl, rfl⟩⟩ | exact Sc.exit (by first | (simp_all [eq_comm]; done) | (simp_all [eq_comm]; intros; omega)) ⟨rfl, rfl⟩)
    (fun E G hE => by
      rw [List.length_take, Nat.min_eq_left (by omega)] at hE
      simp only [c61_l0, hE, Int.lt_irrefl, evX, Int.reduceEq, Int.reduceLT, Int.reduceLE, Nat.reduceMul, Nat.reduceMod, evW, fn_eq, evR, Nat.reduceAdd, Nat.reduceLT, Nat.reduceLeDiff, reduceIte, Nat.reduceEqDiff, reduceCtorEq, argEnv, eq_self, if_true, if_false]
      repeat' ((first | rw [guardK_cases] | rw [condK_bool] | rw [guardD_cases]); split <;> simp only [c61_l0, hE, Int.lt_irrefl, evX, Int.reduceEq, Int.reduceLT, Int.reduceLE, Nat.reduceMul, Nat.reduceMod, evW, evR, Nat.reduceAdd, Nat.reduceLT, Nat.reduceLeDiff, reduceIte, Nat.reduceEqDiff, reduceCtorEq, argEnv, eq_self, if_true, if_false, *])
      exact .exit (K := []) ⟨rfl, by rfl⟩) st G hE hH z hz
  rcases L with ⟨h, L⟩ | ⟨h, L⟩
  · refine .inl ⟨?_, L⟩
    rw [List.any_eq_false]; intro x hx
    have := List.all_eq_true.1 h x hx
    simpa using this
  · refine .inr ⟨?_, L⟩
    obtain ⟨x, hx, h⟩ := List.all_eq_false.1 h
    rw [List.any_eq_true]; exact ⟨x, hx, by simpa using h⟩
theorem m61 (t : Ty) (ht : t.Ok) (h0 : sizeOk t = true) (H : Heap) (b1 : Nat) (hb : Sits H b1 (bTy t)) (st : St) (G : Heap) (hE : keepEnv st.1 [1, 3] = [(1, .ptr b1 0 8 0 0), (3, .int .i64 0)]) (hH : st.2 = H ++ ([] ++ G)) (z : Option (CX × St)) (hz : itLim (evCode (evC cprog) itLim c61_l1) st = z) :
    (fldsOk t.size t.fields = true ∧ Lv H [] (fun c T => c = .exit 0 ∧ keepEnv T [1] = [(1, .ptr b1 0 8 0 0)]) z) ∨ (fldsOk t.size t.fields = false ∧ Lv H [] (fun c T => c = .ret ∧ get T 2 = some (.bool false)) z) := by
  have hsz := h0
  simp only [sizeOk, Bool.and_eq_true, decide_eq_true_eq] at hsz
  have hflen := (sFds [] t.fields).len
  simp only [List.length_map] at hflen
  have hs := hb
  simp only [bTy, rTy, Sits] at hs
  have L := scan_rule t.fields (fldOk t.size t.fields) [1, 3] (fun i => [(1, .ptr b1 0 8 0 0), (3, .int .i64 (i : Int))]) H [] (evCode (evC cprog) itLim c61_l1) (fun c T => c = .exit 0 ∧ keepEnv T [1] = [(1, .ptr b1 0 8 0 0)]) (fun _ _ c T => c = .ret ∧ get T 2 = some (.bool false))
    (fun i f hx E G hE => by
      have hlt : i < t.fields.length := (List.getElem?_eq_some_iff.1 hx).1
      have hi : (i : Int) < (t.fields.length : Int) := by omega
      have hok := ht.field f (List.mem_of_getElem? hx)
      have ha := aFd hx
      have hn := f60 f.name hok.name
      by_cases hneg : f.at' < 0
      · simp only [c61_l1, hE, hi, ha, hs, hflen, hn, hneg, rFd, evX, Int.reduceEq, Int.reduceLT, Int.reduceLE, Nat.reduceMul, Nat.reduceMod, evW, fn_eq, evR, Nat.reduceAdd, Nat.reduceLT, Nat.reduceLeDiff, reduceIte, Nat.reduceEqDiff, reduceCtorEq, argEnv, eq_self, if_true, if_false]
        repeat' ((first | rw [guardK_cases] | rw [condK_bool] | rw [guardD_cases]); split <;> simp only [c61_l1, hE, hi, ha, hs, hflen, hn, hneg, rFd, evX, Int.reduceEq, Int.reduceLT, Int.reduceLE, Nat.reduceMul, Nat.reduceMod, evW, evR, Nat.reduceAdd, Nat.reduceLT, Nat.reduceLeDiff, reduceIte, Nat.reduceEqDiff, reduceCtorEq, argEnv, eq_self, if_true, if_false, *])
        all_goals first | exact Sc.next (by first | (simp_all [fldOk]; done) | (simp_all [fldOk]; intros; omega)) (by rfl) | exact Sc.ret (by first | (simp_all [fldOk]; done) | (simp_all [fldOk]; intros; omega)) ⟨rfl, by first | rfl | exact ⟨rfl, rfl, rfl⟩⟩ | exact Sc.exit (by first | (simp_all [fldOk]; done) | (simp_all [fldOk]; intros; omega)) ⟨rfl, rfl⟩
      by_cases hbig : t.size < f.at'
      · simp only [c61_l1, hE, hi, ha, hs, hflen, hn, hneg, hbig, rFd, evX, Int.reduceEq, Int.reduceLT, Int.reduceLE, Nat.reduceMul, Nat.reduceMod, evW, fn_eq, evR, Nat.reduceAdd, Nat.reduceLT, Nat.reduceLeDiff, reduceIte, Nat.reduceEqDiff, reduceCtorEq, argEnv, eq_self, if_true, if_false]
        repeat' ((first | rw [guardK_cases] | rw [condK_bool] | rw [guardD_cases]); split <;> simp only [c61_l1, hE, hi, ha, hs, hflen, hn, hneg, hbig, rFd, evX, Int.reduceEq, Int.reduceLT, Int.reduceLE, Nat.reduceMul, Nat.reduceMod, evW, evR, Nat.reduceAdd, Nat.reduceLT, Nat.reduceLeDiff, reduceIte, Nat.reduceEqDiff, reduceCtorEq, argEnv, eq_self, if_true, if_false, *])
        all_goals first | exact Sc.next (by first | (simp_all [fldOk]; done) | (simp_all [fldOk]; intros; omega)) (by rfl) | exact Sc.ret (by first | (simp_all [fldOk]; done) | (simp_all [fldOk]; intros; omega)) ⟨rfl, by first | rfl | exact ⟨rfl, rfl, rfl⟩⟩ | exact Sc.exit (by first | (simp_all [fldOk]; done) | (simp_all [fldOk]; intros; omega)) ⟨rfl, rfl⟩
      have hw := wrapD (a := t.size) (b := f.at') (by omega) (by omega) (by omega) (by omega)
      cases n1 : isName f.name with
      | false =>
        simp only [c61_l1, hE, hi, ha, hs, hflen, hn, n1, rFd, evX, Int.reduceEq, Int.reduceLT, Int.reduceLE, Nat.reduceMul, Nat.reduceMod, evW, fn_eq, evR, Nat.reduceAdd, Nat.reduceLT, Nat.reduceLeDiff, reduceIte, Nat.reduceEqDiff, reduceCtorEq, argEnv, eq_self, if_true, if_false]
        repeat' ((first | rw [guardK_cases] | rw [condK_bool] | rw [guardD_cases]); split <;> simp only [c61_l1, hE, hi, ha, hs, hflen, hn, n1, rFd, evX, Int.reduceEq, Int.reduceLT, Int.reduceLE, Nat.reduceMul, Nat.reduceMod, evW, evR, Nat.reduceAdd, Nat.reduceLT, Nat.reduceLeDiff, reduceIte, Nat.reduceEqDiff, reduceCtorEq, argEnv, eq_self, if_true, if_false, *])
        exact Sc.ret (by simp [fldOk, n1]) ⟨rfl, rfl⟩
      | true =>
        by_cases m2 : f.bytes < 1
        · simp only [c61_l1, hE, hi, ha, hs, hflen, hn, hneg, hbig, n1, m2, rFd, evX, Int.reduceEq, Int.reduceLT, Int.reduceLE, Nat.reduceMul, Nat.reduceMod, evW, fn_eq, evR, Nat.reduceAdd, Nat.reduceLT, Nat.reduceLeDiff, reduceIte, Nat.reduceEqDiff, reduceCtorEq, argEnv, eq_self, if_true, if_false]
          repeat' ((first | rw [guardK_cases] | rw [condK_bool] | rw [guardD_cases]); split <;> simp only [c61_l1, hE, hi, ha, hs, hflen, hn, hneg, hbig, n1, m2, rFd, evX, Int.reduceEq, Int.reduceLT, Int.reduceLE, Nat.reduceMul, Nat.reduceMod, evW, evR, Nat.reduceAdd, Nat.reduceLT, Nat.reduceLeDiff, reduceIte, Nat.reduceEqDiff, reduceCtorEq, argEnv, eq_self, if_true, if_false, *])
          exact Sc.ret (by simp [fldOk]; intros; omega) ⟨rfl, rfl⟩
        by_cases m3 : t.size - f.at' < f.bytes
        · simp only [c61_l1, hE, hi, ha, hs, hflen, hn, hneg, hbig, hw, n1, m2, m3, rFd, evX, Int.reduceEq, Int.reduceLT, Int.reduceLE, Nat.reduceMul, Nat.reduceMod, evW, fn_eq, evR, Nat.reduceAdd, Nat.reduceLT, Nat.reduceLeDiff, reduceIte, Nat.reduceEqDiff, reduceCtorEq, argEnv, eq_self, if_true, if_false]
          repeat' ((first | rw [guardK_cases] | rw [condK_bool] | rw [guardD_cases]); split <;> simp only [c61_l1, hE, hi, ha, hs, hflen, hn, hneg, hbig, hw, n1, m2, m3, rFd, evX, Int.reduceEq, Int.reduceLT, Int.reduceLE, Nat.reduceMul, Nat.reduceMod, evW, evR, Nat.reduceAdd, Nat.reduceLT, Nat.reduceLeDiff, reduceIte, Nat.reduceEqDiff, reduceCtorEq, argEnv, eq_self, if_true, if_false, *])
          exact Sc.ret (by simp [fldOk]; intros; omega) ⟨rfl, rfl⟩
        simp only [c61_l1, hE, hi, ha, hs, hflen, hn, hneg, hbig, hw, n1, m2, m3, rFd, evX, Int.reduceEq, Int.reduceLT, Int.reduceLE, Nat.reduceMul, Nat.reduceMod, evW, fn_eq, evR, Nat.reduceAdd, Nat.reduceLT, Nat.reduceLeDiff, reduceIte, Nat.reduceEqDiff, reduceCtorEq, argEnv, eq_self, if_true, if_false]
        repeat' ((first | rw [guardK_cases] | rw [condK_bool] | rw [guardD_cases]); split <;> simp only [c61_l1, hE, hi, ha, hs, hflen, hn, hneg, hbig, hw, n1, m2, m3, rFd, evX, Int.reduceEq, Int.reduceLT, Int.reduceLE, Nat.reduceMul, Nat.reduceMod, evW, evR, Nat.reduceAdd, Nat.reduceLT, Nat.reduceLeDiff, reduceIte, Nat.reduceEqDiff, reduceCtorEq, argEnv, eq_self, if_true, if_false, *])
        generalize hz : itLim _ _ = z
        rcases l61 t f i hlt ht.fields (H ++ (G ++ [bFd f])) b1 (H.length + G.length) (fun X => by rw [List.append_assoc]; exact hb _) (.mk (by simp)) _ [] (by rfl) (by simp [bFd, rFd]) z hz with ⟨h, c, T, G', rfl, _, rfl, hT⟩ | ⟨h, c, T, G', rfl, _, rfl, hT⟩
        · simp only [hT, wrapS hlt ht.fields, evX, Int.reduceEq, Int.reduceLT, Int.reduceLE, Nat.reduceMul, Nat.reduceMod, evW, fn_eq, evR, Nat.reduceAdd, Nat.reduceLT, Nat.reduceLeDiff, reduceIte, Nat.reduceEqDiff, reduceCtorEq, argEnv, eq_self, if_true, if_false]
          repeat' ((first | rw [guardK_cases] | rw [condK_bool] | rw [guardD_cases]); split <;> simp only [hT, wrapS hlt ht.fields, evX, Int.reduceEq, Int.reduceLT, Int.reduceLE, Nat.reduceMul, Nat.reduceMod, evW, evR, Nat.reduceAdd, Nat.reduceLT, Nat.reduceLeDiff, reduceIte, Nat.reduceEqDiff, reduceCtorEq, argEnv, eq_self, if_true, if_false, *])
          refine Sc.next ?_ (by rfl)
          simp [fldOk, h, n1]; omega
        · simp only [hT, evX, Int.reduceEq, Int.reduceLT, Int.reduceLE, Nat.reduceMul, Nat.reduceMod, evW, fn_eq, evR, Nat.reduceAdd, Nat.reduceLT, Nat.reduceLeDiff, reduceIte, Nat.reduceEqDiff, reduceCtorEq, argEnv, eq_self, if_true, if_false]
          repeat' ((first | rw [guardK_cases] | rw [condK_bool] | rw [guardD_cases]); split <;> simp only [hT, evX, Int.reduceEq, Int.reduceLT, Int.reduceLE, Nat.reduceMul, Nat.reduceMod, evW, evR, Nat.reduceAdd, Nat.reduceLT, Nat.reduceLeDiff, reduceIte, Nat.reduceEqDiff, reduceCtorEq, argEnv, eq_self, if_true, if_false, *])
          exact Sc.ret (by simp [fldOk, h]) ⟨rfl, hT⟩)
    (fun E G hE => by
      simp only [c61_l1, hE, hs, hflen, Int.lt_irrefl, evX, Int.reduceEq, Int.reduceLT, Int.reduceLE, Nat.reduceMul, Nat.reduceMod, evW, fn_eq, evR, Nat.reduceAdd, Nat.reduceLT, Nat.reduceLeDiff, reduceIte, Nat.reduceEqDiff, reduceCtorEq, argEnv, eq_self, if_true, if_false]
      repeat' ((first | rw [guardK_cases] | rw [condK_bool] | rw [guardD_cases]); split <;> simp only [c61_l1, hE, hs, hflen, Int.lt_irrefl, evX, Int.reduceEq, Int.reduceLT, Int.reduceLE, Nat.reduceMul, Nat.reduceMod, evW, evR, Nat.reduceAdd, Nat.reduceLT, Nat.reduceLeDiff, reduceIte, Nat.reduceEqDiff, reduceCtorEq, argEnv, eq_self, if_true, if_false, *])
      exact .exit (K := []) ⟨rfl, by rfl⟩) st G hE hH z hz
  rcases L with ⟨h, L⟩ | ⟨i, f, hx, h, _, L⟩
  · exact .inl ⟨tell_pos h, L⟩
  · exact .inr ⟨tell_neg fun h' => by rw [h' i f hx] at h; (cases h), L⟩
theorem f61 (t : Ty) (ht : t.Ok) (h0 : sizeOk t = true) (H : Heap) : cal (evC cprog) false 61 [.agg (rTy t)] H = some (.bool (fieldsOk t && keyOk t), H) := by
  rw [cal_of at61]
  have hsz := h0
  simp only [sizeOk, Bool.and_eq_true, decide_eq_true_eq] at hsz
  have hflen := (sFds [] t.fields).len
  simp only [List.length_map] at hflen
  simp only [c61, rTy, evX, Int.reduceEq, Int.reduceLT, Int.reduceLE, Nat.reduceMul, Nat.reduceMod, evW, fn_eq, evR, Nat.reduceAdd, Nat.reduceLT, Nat.reduceLeDiff, reduceIte, Nat.reduceEqDiff, reduceCtorEq, argEnv, eq_self, if_true, if_false]
  repeat' ((first | rw [guardK_cases] | rw [condK_bool] | rw [guardD_cases]); split <;> simp only [c61, rTy, evX, Int.reduceEq, Int.reduceLT, Int.reduceLE, Nat.reduceMul, Nat.reduceMod, evW, evR, Nat.reduceAdd, Nat.reduceLT, Nat.reduceLeDiff, reduceIte, Nat.reduceEqDiff, reduceCtorEq, argEnv, eq_self, if_true, if_false, *])
  generalize hz : itLim _ _ = z
  rcases m61 t ht h0 (H ++ [bTy t]) H.length (.mk (by simp)) _ [] (by rfl) (by simp [bTy, rTy]) z hz with ⟨h, c, T, G', rfl, _, rfl, hT⟩ | ⟨h, c, T, G', rfl, _, rfl, hT⟩
  · have hs : ∀ X, (H ++ ([bTy t] ++ X))[H.length]? = some (bTy t) := fun X => by simp
    simp only [bTy, rTy] at hs
    rcases key_cases t with hk | hk | hk | ⟨k, f, hk, hf⟩
    · have hkk := key_none hk
      simp only [hT, hs, hk, hflen, bTy, rTy, evX, Int.reduceEq, Int.reduceLT, Int.reduceLE, Nat.reduceMul, Nat.reduceMod, evW, fn_eq, evR, Nat.reduceAdd, Nat.reduceLT, Nat.reduceLeDiff, reduceIte, Nat.reduceEqDiff, reduceCtorEq, argEnv, eq_self, if_true, if_false]
      repeat' ((first | rw [guardK_cases] | rw [condK_bool] | rw [guardD_cases]); split <;> simp only [hT, hs, hk, hflen, bTy, rTy, evX, Int.reduceEq, Int.reduceLT, Int.reduceLE, Nat.reduceMul, Nat.reduceMod, evW, evR, Nat.reduceAdd, Nat.reduceLT, Nat.reduceLeDiff, reduceIte, Nat.reduceEqDiff, reduceCtorEq, argEnv, eq_self, if_true, if_false, *])
      all_goals simp_all [fieldsOk]
      all_goals omega
    · have hkk := key_neg hk
      simp only [hT, hs, hk, hflen, bTy, rTy, evX, Int.reduceEq, Int.reduceLT, Int.reduceLE, Nat.reduceMul, Nat.reduceMod, evW, fn_eq, evR, Nat.reduceAdd, Nat.reduceLT, Nat.reduceLeDiff, reduceIte, Nat.reduceEqDiff, reduceCtorEq, argEnv, eq_self, if_true, if_false]
      repeat' ((first | rw [guardK_cases] | rw [condK_bool] | rw [guardD_cases]); split <;> simp only [hT, hs, hk, hflen, bTy, rTy, evX, Int.reduceEq, Int.reduceLT, Int.reduceLE, Nat.reduceMul, Nat.reduceMod, evW, evR, Nat.reduceAdd, Nat.reduceLT, Nat.reduceLeDiff, reduceIte, Nat.reduceEqDiff, reduceCtorEq, argEnv, eq_self, if_true, if_false, *])
      all_goals simp_all [fieldsOk]
    · have hkk := key_far hk
      have k2 : ¬ t.key < -1 := by omega
      simp only [hT, hs, hk, k2, hflen, bTy, rTy, evX, Int.reduceEq, Int.reduceLT, Int.reduceLE, Nat.reduceMul, Nat.reduceMod, evW, fn_eq, evR, Nat.reduceAdd, Nat.reduceLT, Nat.reduceLeDiff, reduceIte, Nat.reduceEqDiff, reduceCtorEq, argEnv, eq_self, if_true, if_false]
      repeat' ((first | rw [guardK_cases] | rw [condK_bool] | rw [guardD_cases]); split <;> simp only [hT, hs, hk, k2, hflen, bTy, rTy, evX, Int.reduceEq, Int.reduceLT, Int.reduceLE, Nat.reduceMul, Nat.reduceMod, evW, evR, Nat.reduceAdd, Nat.reduceLT, Nat.reduceLeDiff, reduceIte, Nat.reduceEqDiff, reduceCtorEq, argEnv, eq_self, if_true, if_false, *])
      all_goals simp_all [fieldsOk]
    · have hkk := key_at hk hf
      have hkl : k < t.fields.length := (List.getElem?_eq_some_iff.1 hf).1
      have k2 : ¬ (k : Int) < -1 := by omega
      have k3 : ¬ (t.fields.length : Int) ≤ (k : Int) := by omega
      have k4 : ¬ (k : Int) < 0 := by omega
      have ha := aFd hf
      have hfk : fldOk t.size t.fields k f = true := tell_true.1 h k f hf
      simp only [fldOk, Bool.and_eq_true, decide_eq_true_eq] at hfk
      have hw := wrapQ (a := f.at') (b := f.bytes) (by omega) (by omega) (by omega) (by omega)
      simp only [hT, hs, hk, k2, k3, k4, ha, hw, hflen, rFd, bTy, rTy, evX, Int.reduceEq, Int.reduceLT, Int.reduceLE, Nat.reduceMul, Nat.reduceMod, evW, fn_eq, evR, Nat.reduceAdd, Nat.reduceLT, Nat.reduceLeDiff, reduceIte, Nat.reduceEqDiff, reduceCtorEq, argEnv, eq_self, if_true, if_false]
      repeat' ((first | rw [guardK_cases] | rw [condK_bool] | rw [guardD_cases]); split <;> simp only [hT, hs, hk, k2, k3, k4, ha, hw, hflen, rFd, bTy, rTy, evX, Int.reduceEq, Int.reduceLT, Int.reduceLE, Nat.reduceMul, Nat.reduceMod, evW, evR, Nat.reduceAdd, Nat.reduceLT, Nat.reduceLeDiff, reduceIte, Nat.reduceEqDiff, reduceCtorEq, argEnv, eq_self, if_true, if_false, *])
      all_goals simp_all [fieldsOk]
      all_goals omega
  · simp only [hT, evX, Int.reduceEq, Int.reduceLT, Int.reduceLE, Nat.reduceMul, Nat.reduceMod, evW, fn_eq, evR, Nat.reduceAdd, Nat.reduceLT, Nat.reduceLeDiff, reduceIte, Nat.reduceEqDiff, reduceCtorEq, argEnv, eq_self, if_true, if_false]
    repeat' ((first | rw [guardK_cases] | rw [condK_bool] | rw [guardD_cases]); split <;> simp only [hT, evX, Int.reduceEq, Int.reduceLT, Int.reduceLE, Nat.reduceMul, Nat.reduceMod, evW, evR, Nat.reduceAdd, Nat.reduceLT, Nat.reduceLeDiff, reduceIte, Nat.reduceEqDiff, reduceCtorEq, argEnv, eq_self, if_true, if_false, *])
    simp [fieldsOk, h]
end Go.Proofs.Ytcbmakanokmdjaa.Code
