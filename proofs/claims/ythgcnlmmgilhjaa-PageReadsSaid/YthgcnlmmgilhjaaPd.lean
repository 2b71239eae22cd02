/- page: places, how much is free, the greatest. -/
import Derived.Test.YthgcnlmmgilhjaaPc
set_option linter.unusedSimpArgs false
set_option linter.unusedVariables false
namespace Go.Proofs.Ythgcnlmmgilhjaa.Code
open Go.Proofs.Ythgcnlmmgilhjaa.Ev

theorem pl_len (p : List Nat) : ∀ (k a least : Nat) (l : List Pl), 130 - least ≤ k → pl p a least = some l → l.length ≤ k
  | k, a, least, l, hk, h => by
    by_cases h0 : a = 0
    · subst h0; rw [pl_zero] at h; cases h; simp
    · by_cases h1 : a < least ∨ a % 2 = 1 ∨ 126 < a
      · rw [pl_bad p h0 h1] at h; cases h
      · by_cases h2 : byte p (a + 1) < 2 ∨ byte p (a + 1) % 2 = 1 ∨ 128 < a + byte p (a + 1)
        · rw [pl_bad' p h0 h2] at h; cases h
        · rw [pl_next p h0 h1 h2] at h
          cases hq : pl p (byte p a) (a + byte p (a + 1) + 1) with
          | none => rw [hq] at h; cases h
          | some l' =>
            rw [hq] at h
            cases h
            cases k with
            | zero => omega
            | succ k =>
              have := pl_len p k _ _ l' (by omega) hq
              simp only [List.length_cons]; omega
theorem ans_len (p : List Nat) : (plAns p).1.length ≤ 130 := by
  unfold plAns plOf
  split
  · rename_i l h
    split at h
    · exact pl_len p 130 _ _ l (by omega) h
    · cases h
  · simp
/-- what Places answers -/
def placesAns (p : List Nat) : List Pl × Int := if (plAns p).2 = true then ((plAns p).1, 0) else ([], 70)
theorem fz_plsI {H X : Heap} {ty : Nat} {rv : AV} {l : List Pl} (h : Out H.length 2 ty X rv (l.map rPl)) (e : Int) : calK true H (some (.tup [rv, .int .i64 e], H ++ X)) = some (.tup [ePl l, .int .i64 e], H) := by
  obtain ⟨ids, h1, h2⟩ := fz_rPl h H rfl
  refine calK_frz (ids := ids) ?_ rfl (by simp) h2
  have e1 : fz1 (H ++ X) rv = fz (H ++ X) 8 rv := by rcases h with ⟨_, rfl | rfl⟩ | ⟨_, j, v, rfl, _⟩ <;> rfl
  show (fzCells (fz1 _) [rv, .int .i64 e]).map _ = _
  have e2 : fz1 (H ++ X) (.int .i64 e) = some (.int .i64 e, []) := rfl
  simp only [fzCells, e1, h1, e2, Option.map_some, List.append_nil]
theorem l9 (l : List Pl) (hl : l.length ≤ 1000) (H : Heap) (st : St)
    (hE : keepEnv st.1 [6, 16, 17, 18] = [(6, .nils), (16, ePl l), (17, .int .i64 (l.length : Int)), (18, .int .i64 0)]) (hH : st.2 = H) (z : Option (CX × St)) (hz : itLim (evCode (evC cprog) itLim c9_l0) st = z) :
    ∃ T X rv, z = some (.exit 0, T, H ++ X) ∧ get T 6 = some rv ∧ Out H.length 2 35 X rv (l.map rPl) := by
  have L := loop_rule (σ := Nat × Heap × AV) (m := [6, 16, 17, 18]) (env := fun i => [(6, i.2.2), (16, ePl l), (17, .int .i64 (l.length : Int)), (18, .int .i64 (i.1 : Int))]) (hp := fun i => H ++ i.2.1)
    (P := fun i r => ∃ T X rv, r = (.exit 0, T, H ++ X) ∧ get T 6 = some rv ∧ Out H.length 2 35 X rv (l.map rPl))
    (mu := fun i => l.length - i.1) (I := fun i => i.1 ≤ l.length ∧ Out H.length 2 35 i.2.1 i.2.2 ((l.take i.1).map rPl)) (evCode (evC cprog) itLim c9_l0) ?_ (0, [], .nils) st ⟨Nat.zero_le _, .nils ..⟩ hE (by simpa using hH) z hz
  · obtain ⟨r, rfl, T, X, rv, rfl, h⟩ := L
    exact ⟨T, X, rv, rfl, h⟩
  · intro ⟨i, X, rv⟩ ⟨hi, hO⟩ E hE
    simp only at hi hO hE ⊢
    by_cases hlt : i < l.length
    · obtain ⟨x, hx⟩ : ∃ x, l[i]? = some x := ⟨_, List.getElem?_eq_getElem hlt⟩
      have hi1 : (i : Int) < (l.length : Int) := by omega
      obtain ⟨_, p, hp, hat⟩ := (sPl H l).get i (rPl x) (by rw [List.getElem?_map, hx]; rfl)
      have hap := fun Y v => out_app (hO.more Y) 16 H rfl v
      have hbnd : (((l.take i).map rPl).length + 1) * 16 ≤ reach ∧ ((l.take i).map rPl).length + 1 ≤ reach := by simp only [List.length_map, List.length_take, reach]; omega
      have hta : (l.take (i + 1)).map rPl = (l.take i).map rPl ++ [rPl x] := by rw [List.take_add_one, hx]; simp
      have hqa := hat.aggx (n := 2) rfl
      simp only [c9_l0, hE, hi1, hp, hqa, rPl, hap, src_ref, hbnd, wrapS hlt (by omega : l.length < 9223372036854775807), evX, Int.reduceEq, Int.reduceLT, Int.reduceLE, Nat.reduceMul, Nat.reduceMod, evW, fn_eq, evR, Nat.reduceAdd, Nat.reduceLT, Nat.reduceLeDiff, reduceIte, Nat.reduceEqDiff, reduceCtorEq, argEnv, eq_self, if_true, if_false]
      repeat' (first | (rw [guardK_cases]; split <;> simp only [c9_l0, hE, hi1, hp, hqa, rPl, hap, src_ref, hbnd, wrapS hlt (by omega : l.length < 9223372036854775807), evX, Int.reduceEq, Int.reduceLT, Int.reduceLE, Nat.reduceMul, Nat.reduceMod, evW, evR, Nat.reduceAdd, Nat.reduceLT, Nat.reduceLeDiff, reduceIte, Nat.reduceEqDiff, reduceCtorEq, argEnv, eq_self, if_true, if_false, *]) | (rw [condK_bool]; split <;> simp only [c9_l0, hE, hi1, hp, hqa, rPl, hap, src_ref, hbnd, wrapS hlt (by omega : l.length < 9223372036854775807), evX, Int.reduceEq, Int.reduceLT, Int.reduceLE, Nat.reduceMul, Nat.reduceMod, evW, evR, Nat.reduceAdd, Nat.reduceLT, Nat.reduceLeDiff, reduceIte, Nat.reduceEqDiff, reduceCtorEq, argEnv, eq_self, if_true, if_false, *]) | (rw [guardD_cases]; split <;> simp only [c9_l0, hE, hi1, hp, hqa, rPl, hap, src_ref, hbnd, wrapS hlt (by omega : l.length < 9223372036854775807), evX, Int.reduceEq, Int.reduceLT, Int.reduceLE, Nat.reduceMul, Nat.reduceMod, evW, evR, Nat.reduceAdd, Nat.reduceLT, Nat.reduceLeDiff, reduceIte, Nat.reduceEqDiff, reduceCtorEq, argEnv, eq_self, if_true, if_false, *]))
      exact q_next (i + 1, _, _) (by rfl) rfl ⟨by omega, by rw [hta]; exact (hO.more _).step (by simp)⟩ (by simp only; omega) (fun r h => h)
    · have : i = l.length := by omega
      subst this
      simp only [c9_l0, hE, Int.lt_irrefl, evX, Int.reduceEq, Int.reduceLT, Int.reduceLE, Nat.reduceMul, Nat.reduceMod, evW, fn_eq, evR, Nat.reduceAdd, Nat.reduceLT, Nat.reduceLeDiff, reduceIte, Nat.reduceEqDiff, reduceCtorEq, argEnv, eq_self, if_true, if_false]
      repeat' (first | (rw [guardK_cases]; split <;> simp only [c9_l0, hE, Int.lt_irrefl, evX, Int.reduceEq, Int.reduceLT, Int.reduceLE, Nat.reduceMul, Nat.reduceMod, evW, evR, Nat.reduceAdd, Nat.reduceLT, Nat.reduceLeDiff, reduceIte, Nat.reduceEqDiff, reduceCtorEq, argEnv, eq_self, if_true, if_false, *]) | (rw [condK_bool]; split <;> simp only [c9_l0, hE, Int.lt_irrefl, evX, Int.reduceEq, Int.reduceLT, Int.reduceLE, Nat.reduceMul, Nat.reduceMod, evW, evR, Nat.reduceAdd, Nat.reduceLT, Nat.reduceLeDiff, reduceIte, Nat.reduceEqDiff, reduceCtorEq, argEnv, eq_self, if_true, if_false, *]) | (rw [guardD_cases]; split <;> simp only [c9_l0, hE, Int.lt_irrefl, evX, Int.reduceEq, Int.reduceLT, Int.reduceLE, Nat.reduceMul, Nat.reduceMod, evW, evR, Nat.reduceAdd, Nat.reduceLT, Nat.reduceLeDiff, reduceIte, Nat.reduceEqDiff, reduceCtorEq, argEnv, eq_self, if_true, if_false, *]))
      rw [List.take_length] at hO
      exact q_exit ⟨_, X, rv, rfl, by rfl, hO⟩
theorem f9 (p : List Nat) (hp : Page p) (H : Heap) : cal (evC cprog) true 9 [eB p] H = some (.tup [ePl (placesAns p).1, .int .i64 (placesAns p).2], H) := by
  have h32 := fun H => f32F p hp H
  have hln := (sPl H (plAns p).1).len
  simp only [List.length_map] at hln
  rw [cal_of at9]
  cases hok : (plAns p).2 with
  | true =>
    have ha : placesAns p = ((plAns p).1, 0) := by simp [placesAns, hok]
    rw [ha]
    simp only [hok] at h32
    simp only [c9, h32, hln, evX, Int.reduceEq, Int.reduceLT, Int.reduceLE, Nat.reduceMul, Nat.reduceMod, evW, fn_eq, evR, Nat.reduceAdd, Nat.reduceLT, Nat.reduceLeDiff, reduceIte, Nat.reduceEqDiff, reduceCtorEq, argEnv, eq_self, if_true, if_false]
    repeat' (first | (rw [guardK_cases]; split <;> simp only [c9, h32, hln, evX, Int.reduceEq, Int.reduceLT, Int.reduceLE, Nat.reduceMul, Nat.reduceMod, evW, evR, Nat.reduceAdd, Nat.reduceLT, Nat.reduceLeDiff, reduceIte, Nat.reduceEqDiff, reduceCtorEq, argEnv, eq_self, if_true, if_false, *]) | (rw [condK_bool]; split <;> simp only [c9, h32, hln, evX, Int.reduceEq, Int.reduceLT, Int.reduceLE, Nat.reduceMul, Nat.reduceMod, evW, evR, Nat.reduceAdd, Nat.reduceLT, Nat.reduceLeDiff, reduceIte, Nat.reduceEqDiff, reduceCtorEq, argEnv, eq_self, if_true, if_false, *]) | (rw [guardD_cases]; split <;> simp only [c9, h32, hln, evX, Int.reduceEq, Int.reduceLT, Int.reduceLE, Nat.reduceMul, Nat.reduceMod, evW, evR, Nat.reduceAdd, Nat.reduceLT, Nat.reduceLeDiff, reduceIte, Nat.reduceEqDiff, reduceCtorEq, argEnv, eq_self, if_true, if_false, *]))
    generalize hz : itLim _ _ = z
    obtain ⟨T, X, rv, rfl, hT, hO⟩ := l9 (plAns p).1 (by have := ans_len p; omega) H _ (by rfl) rfl z hz
    simp only [hT, out_tup hO, evX, Int.reduceEq, Int.reduceLT, Int.reduceLE, Nat.reduceMul, Nat.reduceMod, evW, fn_eq, evR, Nat.reduceAdd, Nat.reduceLT, Nat.reduceLeDiff, reduceIte, Nat.reduceEqDiff, reduceCtorEq, argEnv, eq_self, if_true, if_false]
    repeat' (first | (rw [guardK_cases]; split <;> simp only [hT, out_tup hO, evX, Int.reduceEq, Int.reduceLT, Int.reduceLE, Nat.reduceMul, Nat.reduceMod, evW, evR, Nat.reduceAdd, Nat.reduceLT, Nat.reduceLeDiff, reduceIte, Nat.reduceEqDiff, reduceCtorEq, argEnv, eq_self, if_true, if_false, *]) | (rw [condK_bool]; split <;> simp only [hT, out_tup hO, evX, Int.reduceEq, Int.reduceLT, Int.reduceLE, Nat.reduceMul, Nat.reduceMod, evW, evR, Nat.reduceAdd, Nat.reduceLT, Nat.reduceLeDiff, reduceIte, Nat.reduceEqDiff, reduceCtorEq, argEnv, eq_self, if_true, if_false, *]) | (rw [guardD_cases]; split <;> simp only [hT, out_tup hO, evX, Int.reduceEq, Int.reduceLT, Int.reduceLE, Nat.reduceMul, Nat.reduceMod, evW, evR, Nat.reduceAdd, Nat.reduceLT, Nat.reduceLeDiff, reduceIte, Nat.reduceEqDiff, reduceCtorEq, argEnv, eq_self, if_true, if_false, *]))
    exact fz_plsI hO 0
  | false =>
    have ha : placesAns p = ([], 70) := by simp [placesAns, hok]
    rw [ha]
    simp only [hok] at h32
    simp only [c9, h32, evX, Int.reduceEq, Int.reduceLT, Int.reduceLE, Nat.reduceMul, Nat.reduceMod, evW, fn_eq, evR, Nat.reduceAdd, Nat.reduceLT, Nat.reduceLeDiff, reduceIte, Nat.reduceEqDiff, reduceCtorEq, argEnv, eq_self, if_true, if_false]
    repeat' (first | (rw [guardK_cases]; split <;> simp only [c9, h32, evX, Int.reduceEq, Int.reduceLT, Int.reduceLE, Nat.reduceMul, Nat.reduceMod, evW, evR, Nat.reduceAdd, Nat.reduceLT, Nat.reduceLeDiff, reduceIte, Nat.reduceEqDiff, reduceCtorEq, argEnv, eq_self, if_true, if_false, *]) | (rw [condK_bool]; split <;> simp only [c9, h32, evX, Int.reduceEq, Int.reduceLT, Int.reduceLE, Nat.reduceMul, Nat.reduceMod, evW, evR, Nat.reduceAdd, Nat.reduceLT, Nat.reduceLeDiff, reduceIte, Nat.reduceEqDiff, reduceCtorEq, argEnv, eq_self, if_true, if_false, *]) | (rw [guardD_cases]; split <;> simp only [c9, h32, evX, Int.reduceEq, Int.reduceLT, Int.reduceLE, Nat.reduceMul, Nat.reduceMod, evW, evR, Nat.reduceAdd, Nat.reduceLT, Nat.reduceLeDiff, reduceIte, Nat.reduceEqDiff, reduceCtorEq, argEnv, eq_self, if_true, if_false, *]))
    exact (by simpa using fz_plsI (H := H) (X := []) (ty := 35) (l := []) (.nils ..) 70)
theorem f10 (p : List Nat) (hp : Page p) (H : Heap) : cal (evC cprog) true 10 [eB p] H = some (.tup [ePl (placesAns p).1, .int .i64 (placesAns p).2], H) := by
  have h33 := fun H => f33 p hp H
  rw [cal_of at10]
  cases hok : (plAns p).2 with
  | true =>
    have ha : placesAns p = ((plAns p).1, 0) := by simp [placesAns, hok]
    rw [ha]
    simp only [hok] at h33
    have hnt : ∀ l, (ePl l).isTup = false := fun _ => rfl
    simp only [c10, h33, hnt, evX, Int.reduceEq, Int.reduceLT, Int.reduceLE, Nat.reduceMul, Nat.reduceMod, evW, fn_eq, evR, Nat.reduceAdd, Nat.reduceLT, Nat.reduceLeDiff, reduceIte, Nat.reduceEqDiff, reduceCtorEq, argEnv, eq_self, if_true, if_false]
    repeat' (first | (rw [guardK_cases]; split <;> simp only [c10, h33, hnt, evX, Int.reduceEq, Int.reduceLT, Int.reduceLE, Nat.reduceMul, Nat.reduceMod, evW, evR, Nat.reduceAdd, Nat.reduceLT, Nat.reduceLeDiff, reduceIte, Nat.reduceEqDiff, reduceCtorEq, argEnv, eq_self, if_true, if_false, *]) | (rw [condK_bool]; split <;> simp only [c10, h33, hnt, evX, Int.reduceEq, Int.reduceLT, Int.reduceLE, Nat.reduceMul, Nat.reduceMod, evW, evR, Nat.reduceAdd, Nat.reduceLT, Nat.reduceLeDiff, reduceIte, Nat.reduceEqDiff, reduceCtorEq, argEnv, eq_self, if_true, if_false, *]) | (rw [guardD_cases]; split <;> simp only [c10, h33, hnt, evX, Int.reduceEq, Int.reduceLT, Int.reduceLE, Nat.reduceMul, Nat.reduceMod, evW, evR, Nat.reduceAdd, Nat.reduceLT, Nat.reduceLeDiff, reduceIte, Nat.reduceEqDiff, reduceCtorEq, argEnv, eq_self, if_true, if_false, *]))
    exact calK_frz (ids := []) rfl rfl (by simp) (by simp)
  | false =>
    have ha : placesAns p = ([], 70) := by simp [placesAns, hok]
    rw [ha]
    simp only [hok] at h33
    simp only [c10, h33, evX, Int.reduceEq, Int.reduceLT, Int.reduceLE, Nat.reduceMul, Nat.reduceMod, evW, fn_eq, evR, Nat.reduceAdd, Nat.reduceLT, Nat.reduceLeDiff, reduceIte, Nat.reduceEqDiff, reduceCtorEq, argEnv, eq_self, if_true, if_false]
    repeat' (first | (rw [guardK_cases]; split <;> simp only [c10, h33, evX, Int.reduceEq, Int.reduceLT, Int.reduceLE, Nat.reduceMul, Nat.reduceMod, evW, evR, Nat.reduceAdd, Nat.reduceLT, Nat.reduceLeDiff, reduceIte, Nat.reduceEqDiff, reduceCtorEq, argEnv, eq_self, if_true, if_false, *]) | (rw [condK_bool]; split <;> simp only [c10, h33, evX, Int.reduceEq, Int.reduceLT, Int.reduceLE, Nat.reduceMul, Nat.reduceMod, evW, evR, Nat.reduceAdd, Nat.reduceLT, Nat.reduceLeDiff, reduceIte, Nat.reduceEqDiff, reduceCtorEq, argEnv, eq_self, if_true, if_false, *]) | (rw [guardD_cases]; split <;> simp only [c10, h33, evX, Int.reduceEq, Int.reduceLT, Int.reduceLE, Nat.reduceMul, Nat.reduceMod, evW, evR, Nat.reduceAdd, Nat.reduceLT, Nat.reduceLeDiff, reduceIte, Nat.reduceEqDiff, reduceCtorEq, argEnv, eq_self, if_true, if_false, *]))
    exact (by simpa using fz_plsI (H := H) (X := []) (ty := 35) (l := []) (.nils ..) 70)
def sumW (l : List Pl) : Int := l.foldl (fun s x => IntKind.i64.wrap (s + (x.2 : Int))) 0
def maxW (l : List Pl) : Int := l.foldl (fun s x => max s (x.2 : Int)) 0
theorem sum_take (l : List Pl) {i : Nat} {x : Pl} (h : l[i]? = some x) : sumW (l.take (i + 1)) = IntKind.i64.wrap (sumW (l.take i) + (x.2 : Int)) := by
  unfold sumW; rw [List.take_add_one, h, List.foldl_append]; rfl
theorem max_take (l : List Pl) {i : Nat} {x : Pl} (h : l[i]? = some x) : maxW (l.take (i + 1)) = max (maxW (l.take i)) (x.2 : Int) := by
  unfold maxW; rw [List.take_add_one, h, List.foldl_append]; rfl
theorem f34 (l : List Pl) (hl : l.length < 1000000) (H : Heap) : cal (evC cprog) false 34 [ePl l] H = some (.tup [.int .i64 (sumW l), .int .i64 (maxW l)], H) := by
  have hln := (sPl H l).len
  simp only [List.length_map] at hln
  rw [cal_of at34]
  simp only [c34, hln, evX, Int.reduceEq, Int.reduceLT, Int.reduceLE, Nat.reduceMul, Nat.reduceMod, evW, fn_eq, evR, Nat.reduceAdd, Nat.reduceLT, Nat.reduceLeDiff, reduceIte, Nat.reduceEqDiff, reduceCtorEq, argEnv, eq_self, if_true, if_false]
  repeat' (first | (rw [guardK_cases]; split <;> simp only [c34, hln, evX, Int.reduceEq, Int.reduceLT, Int.reduceLE, Nat.reduceMul, Nat.reduceMod, evW, evR, Nat.reduceAdd, Nat.reduceLT, Nat.reduceLeDiff, reduceIte, Nat.reduceEqDiff, reduceCtorEq, argEnv, eq_self, if_true, if_false, *]) | (rw [condK_bool]; split <;> simp only [c34, hln, evX, Int.reduceEq, Int.reduceLT, Int.reduceLE, Nat.reduceMul, Nat.reduceMod, evW, evR, Nat.reduceAdd, Nat.reduceLT, Nat.reduceLeDiff, reduceIte, Nat.reduceEqDiff, reduceCtorEq, argEnv, eq_self, if_true, if_false, *]) | (rw [guardD_cases]; split <;> simp only [c34, hln, evX, Int.reduceEq, Int.reduceLT, Int.reduceLE, Nat.reduceMul, Nat.reduceMod, evW, evR, Nat.reduceAdd, Nat.reduceLT, Nat.reduceLeDiff, reduceIte, Nat.reduceEqDiff, reduceCtorEq, argEnv, eq_self, if_true, if_false, *]))
  generalize hz : itLim _ _ = z
  rcases all_rule l (fun _ => true) [2, 3, 6, 7, 8] (fun i => [(2, .int .i64 (sumW (l.take i))), (3, .int .i64 (maxW (l.take i))), (6, ePl l), (7, .int .i64 (l.length : Int)), (8, .int .i64 (i : Int))]) H [] (evCode (evC cprog) itLim c34_l0) (fun x T => x = .exit 0 ∧ keepEnv T [2, 3] = [(2, .int .i64 (sumW l)), (3, .int .i64 (maxW l))]) (fun _ _ => False)
    (fun i x hx E G hE => by
      have hlt : i < l.length := (List.getElem?_eq_some_iff.1 hx).1
      have hi : (i : Int) < (l.length : Int) := by omega
      obtain ⟨_, p, hp, hat⟩ := (sPl H l).get i (rPl x) (by rw [List.getElem?_map, hx]; rfl)
      have hs := sum_take l hx
      have hm := max_take l hx
      have hqa := hat.aggx (n := 2) rfl
      simp only [c34_l0, hE, hi, hp, hqa, rPl, ← hs, ← hm, wrapS hlt (by omega : l.length < 9223372036854775807), evX, Int.reduceEq, Int.reduceLT, Int.reduceLE, Nat.reduceMul, Nat.reduceMod, evW, fn_eq, evR, Nat.reduceAdd, Nat.reduceLT, Nat.reduceLeDiff, reduceIte, Nat.reduceEqDiff, reduceCtorEq, argEnv, eq_self, if_true, if_false]
      repeat' (first | (rw [guardK_cases]; split <;> simp only [c34_l0, hE, hi, hp, hqa, rPl, ← hs, ← hm, wrapS hlt (by omega : l.length < 9223372036854775807), evX, Int.reduceEq, Int.reduceLT, Int.reduceLE, Nat.reduceMul, Nat.reduceMod, evW, evR, Nat.reduceAdd, Nat.reduceLT, Nat.reduceLeDiff, reduceIte, Nat.reduceEqDiff, reduceCtorEq, argEnv, eq_self, if_true, if_false, *]) | (rw [condK_bool]; split <;> simp only [c34_l0, hE, hi, hp, hqa, rPl, ← hs, ← hm, wrapS hlt (by omega : l.length < 9223372036854775807), evX, Int.reduceEq, Int.reduceLT, Int.reduceLE, Nat.reduceMul, Nat.reduceMod, evW, evR, Nat.reduceAdd, Nat.reduceLT, Nat.reduceLeDiff, reduceIte, Nat.reduceEqDiff, reduceCtorEq, argEnv, eq_self, if_true, if_false, *]) | (rw [guardD_cases]; split <;> simp only [c34_l0, hE, hi, hp, hqa, rPl, ← hs, ← hm, wrapS hlt (by omega : l.length < 9223372036854775807), evX, Int.reduceEq, Int.reduceLT, Int.reduceLE, Nat.reduceMul, Nat.reduceMod, evW, evR, Nat.reduceAdd, Nat.reduceLT, Nat.reduceLeDiff, reduceIte, Nat.reduceEqDiff, reduceCtorEq, argEnv, eq_self, if_true, if_false, *]))
      exact Sc.next (K := []) rfl (by rfl))
    (fun E G hE => by
      simp only [c34_l0, hE, Int.lt_irrefl, List.take_length, evX, Int.reduceEq, Int.reduceLT, Int.reduceLE, Nat.reduceMul, Nat.reduceMod, evW, fn_eq, evR, Nat.reduceAdd, Nat.reduceLT, Nat.reduceLeDiff, reduceIte, Nat.reduceEqDiff, reduceCtorEq, argEnv, eq_self, if_true, if_false]
      repeat' (first | (rw [guardK_cases]; split <;> simp only [c34_l0, hE, Int.lt_irrefl, List.take_length, evX, Int.reduceEq, Int.reduceLT, Int.reduceLE, Nat.reduceMul, Nat.reduceMod, evW, evR, Nat.reduceAdd, Nat.reduceLT, Nat.reduceLeDiff, reduceIte, Nat.reduceEqDiff, reduceCtorEq, argEnv, eq_self, if_true, if_false, *]) | (rw [condK_bool]; split <;> simp only [c34_l0, hE, Int.lt_irrefl, List.take_length, evX, Int.reduceEq, Int.reduceLT, Int.reduceLE, Nat.reduceMul, Nat.reduceMod, evW, evR, Nat.reduceAdd, Nat.reduceLT, Nat.reduceLeDiff, reduceIte, Nat.reduceEqDiff, reduceCtorEq, argEnv, eq_self, if_true, if_false, *]) | (rw [guardD_cases]; split <;> simp only [c34_l0, hE, Int.lt_irrefl, List.take_length, evX, Int.reduceEq, Int.reduceLT, Int.reduceLE, Nat.reduceMul, Nat.reduceMod, evW, evR, Nat.reduceAdd, Nat.reduceLT, Nat.reduceLeDiff, reduceIte, Nat.reduceEqDiff, reduceCtorEq, argEnv, eq_self, if_true, if_false, *]))
      exact .exit (K := []) ⟨rfl, by rfl⟩) _ [] (by rfl) (by simp) z hz with ⟨_, x, T, G, rfl, _, rfl, hT⟩ | ⟨h, _⟩
  · simp only [hT, evX, Int.reduceEq, Int.reduceLT, Int.reduceLE, Nat.reduceMul, Nat.reduceMod, evW, fn_eq, evR, Nat.reduceAdd, Nat.reduceLT, Nat.reduceLeDiff, reduceIte, Nat.reduceEqDiff, reduceCtorEq, argEnv, eq_self, if_true, if_false]
    repeat' (first | (rw [guardK_cases]; split <;> simp only [hT, evX, Int.reduceEq, Int.reduceLT, Int.reduceLE, Nat.reduceMul, Nat.reduceMod, evW, evR, Nat.reduceAdd, Nat.reduceLT, Nat.reduceLeDiff, reduceIte, Nat.reduceEqDiff, reduceCtorEq, argEnv, eq_self, if_true, if_false, *]) | (rw [condK_bool]; split <;> simp only [hT, evX, Int.reduceEq, Int.reduceLT, Int.reduceLE, Nat.reduceMul, Nat.reduceMod, evW, evR, Nat.reduceAdd, Nat.reduceLT, Nat.reduceLeDiff, reduceIte, Nat.reduceEqDiff, reduceCtorEq, argEnv, eq_self, if_true, if_false, *]) | (rw [guardD_cases]; split <;> simp only [hT, evX, Int.reduceEq, Int.reduceLT, Int.reduceLE, Nat.reduceMul, Nat.reduceMod, evW, evR, Nat.reduceAdd, Nat.reduceLT, Nat.reduceLeDiff, reduceIte, Nat.reduceEqDiff, reduceCtorEq, argEnv, eq_self, if_true, if_false, *]))
  · rw [List.all_eq_false] at h
    obtain ⟨_, _, h⟩ := h
    exact absurd rfl h
theorem f11 (p : List Nat) (hp : Page p) (H : Heap) : cal (evC cprog) false 11 [eB p] H = some (.tup [.int .i64 (sumW (placesAns p).1), .int .i64 (placesAns p).2], H) := by
  have h32 := fun H => f32F p hp H
  have h34 := fun H => f34 (plAns p).1 (by have := ans_len p; omega) H
  rw [cal_of at11]
  cases hok : (plAns p).2 with
  | true =>
    have ha : placesAns p = ((plAns p).1, 0) := by simp [placesAns, hok]
    rw [ha]
    simp only [hok] at h32
    simp only [c11, h32, h34, evX, Int.reduceEq, Int.reduceLT, Int.reduceLE, Nat.reduceMul, Nat.reduceMod, evW, fn_eq, evR, Nat.reduceAdd, Nat.reduceLT, Nat.reduceLeDiff, reduceIte, Nat.reduceEqDiff, reduceCtorEq, argEnv, eq_self, if_true, if_false]
    repeat' (first | (rw [guardK_cases]; split <;> simp only [c11, h32, h34, evX, Int.reduceEq, Int.reduceLT, Int.reduceLE, Nat.reduceMul, Nat.reduceMod, evW, evR, Nat.reduceAdd, Nat.reduceLT, Nat.reduceLeDiff, reduceIte, Nat.reduceEqDiff, reduceCtorEq, argEnv, eq_self, if_true, if_false, *]) | (rw [condK_bool]; split <;> simp only [c11, h32, h34, evX, Int.reduceEq, Int.reduceLT, Int.reduceLE, Nat.reduceMul, Nat.reduceMod, evW, evR, Nat.reduceAdd, Nat.reduceLT, Nat.reduceLeDiff, reduceIte, Nat.reduceEqDiff, reduceCtorEq, argEnv, eq_self, if_true, if_false, *]) | (rw [guardD_cases]; split <;> simp only [c11, h32, h34, evX, Int.reduceEq, Int.reduceLT, Int.reduceLE, Nat.reduceMul, Nat.reduceMod, evW, evR, Nat.reduceAdd, Nat.reduceLT, Nat.reduceLeDiff, reduceIte, Nat.reduceEqDiff, reduceCtorEq, argEnv, eq_self, if_true, if_false, *]))
  | false =>
    have ha : placesAns p = ([], 70) := by simp [placesAns, hok]
    rw [ha]
    simp only [hok] at h32
    simp only [c11, h32, evX, Int.reduceEq, Int.reduceLT, Int.reduceLE, Nat.reduceMul, Nat.reduceMod, evW, fn_eq, evR, Nat.reduceAdd, Nat.reduceLT, Nat.reduceLeDiff, reduceIte, Nat.reduceEqDiff, reduceCtorEq, argEnv, eq_self, if_true, if_false]
    repeat' (first | (rw [guardK_cases]; split <;> simp only [c11, h32, evX, Int.reduceEq, Int.reduceLT, Int.reduceLE, Nat.reduceMul, Nat.reduceMod, evW, evR, Nat.reduceAdd, Nat.reduceLT, Nat.reduceLeDiff, reduceIte, Nat.reduceEqDiff, reduceCtorEq, argEnv, eq_self, if_true, if_false, *]) | (rw [condK_bool]; split <;> simp only [c11, h32, evX, Int.reduceEq, Int.reduceLT, Int.reduceLE, Nat.reduceMul, Nat.reduceMod, evW, evR, Nat.reduceAdd, Nat.reduceLT, Nat.reduceLeDiff, reduceIte, Nat.reduceEqDiff, reduceCtorEq, argEnv, eq_self, if_true, if_false, *]) | (rw [guardD_cases]; split <;> simp only [c11, h32, evX, Int.reduceEq, Int.reduceLT, Int.reduceLE, Nat.reduceMul, Nat.reduceMod, evW, evR, Nat.reduceAdd, Nat.reduceLT, Nat.reduceLeDiff, reduceIte, Nat.reduceEqDiff, reduceCtorEq, argEnv, eq_self, if_true, if_false, *]))
    rfl
theorem f16 (p : List Nat) (hp : Page p) (H : Heap) : cal (evC cprog) false 16 [eB p] H = some (.tup [.int .i64 (maxW (placesAns p).1), .int .i64 (placesAns p).2], H) := by
  have h32 := fun H => f32F p hp H
  have h34 := fun H => f34 (plAns p).1 (by have := ans_len p; omega) H
  rw [cal_of at16]
  cases hok : (plAns p).2 with
  | true =>
    have ha : placesAns p = ((plAns p).1, 0) := by simp [placesAns, hok]
    rw [ha]
    simp only [hok] at h32
    simp only [c16, h32, h34, evX, Int.reduceEq, Int.reduceLT, Int.reduceLE, Nat.reduceMul, Nat.reduceMod, evW, fn_eq, evR, Nat.reduceAdd, Nat.reduceLT, Nat.reduceLeDiff, reduceIte, Nat.reduceEqDiff, reduceCtorEq, argEnv, eq_self, if_true, if_false]
    repeat' (first | (rw [guardK_cases]; split <;> simp only [c16, h32, h34, evX, Int.reduceEq, Int.reduceLT, Int.reduceLE, Nat.reduceMul, Nat.reduceMod, evW, evR, Nat.reduceAdd, Nat.reduceLT, Nat.reduceLeDiff, reduceIte, Nat.reduceEqDiff, reduceCtorEq, argEnv, eq_self, if_true, if_false, *]) | (rw [condK_bool]; split <;> simp only [c16, h32, h34, evX, Int.reduceEq, Int.reduceLT, Int.reduceLE, Nat.reduceMul, Nat.reduceMod, evW, evR, Nat.reduceAdd, Nat.reduceLT, Nat.reduceLeDiff, reduceIte, Nat.reduceEqDiff, reduceCtorEq, argEnv, eq_self, if_true, if_false, *]) | (rw [guardD_cases]; split <;> simp only [c16, h32, h34, evX, Int.reduceEq, Int.reduceLT, Int.reduceLE, Nat.reduceMul, Nat.reduceMod, evW, evR, Nat.reduceAdd, Nat.reduceLT, Nat.reduceLeDiff, reduceIte, Nat.reduceEqDiff, reduceCtorEq, argEnv, eq_self, if_true, if_false, *]))
  | false =>
    have ha : placesAns p = ([], 70) := by simp [placesAns, hok]
    rw [ha]
    simp only [hok] at h32
    simp only [c16, h32, evX, Int.reduceEq, Int.reduceLT, Int.reduceLE, Nat.reduceMul, Nat.reduceMod, evW, fn_eq, evR, Nat.reduceAdd, Nat.reduceLT, Nat.reduceLeDiff, reduceIte, Nat.reduceEqDiff, reduceCtorEq, argEnv, eq_self, if_true, if_false]
    repeat' (first | (rw [guardK_cases]; split <;> simp only [c16, h32, evX, Int.reduceEq, Int.reduceLT, Int.reduceLE, Nat.reduceMul, Nat.reduceMod, evW, evR, Nat.reduceAdd, Nat.reduceLT, Nat.reduceLeDiff, reduceIte, Nat.reduceEqDiff, reduceCtorEq, argEnv, eq_self, if_true, if_false, *]) | (rw [condK_bool]; split <;> simp only [c16, h32, evX, Int.reduceEq, Int.reduceLT, Int.reduceLE, Nat.reduceMul, Nat.reduceMod, evW, evR, Nat.reduceAdd, Nat.reduceLT, Nat.reduceLeDiff, reduceIte, Nat.reduceEqDiff, reduceCtorEq, argEnv, eq_self, if_true, if_false, *]) | (rw [guardD_cases]; split <;> simp only [c16, h32, evX, Int.reduceEq, Int.reduceLT, Int.reduceLE, Nat.reduceMul, Nat.reduceMod, evW, evR, Nat.reduceAdd, Nat.reduceLT, Nat.reduceLeDiff, reduceIte, Nat.reduceEqDiff, reduceCtorEq, argEnv, eq_self, if_true, if_false, *]))
    rfl
/-- what Empty answers -/
def emptyAns (p : List Nat) : Bool := decide ((placesAns p).2 = 0) && decide (sumW (placesAns p).1 = 126)
theorem f18 (p : List Nat) (hp : Page p) (H : Heap) : cal (evC cprog) false 18 [eB p] H = some (.tup [.bool (emptyAns p), .int .i64 (placesAns p).2], H) := by
  have h32 := fun H => f32F p hp H
  have h34 := fun H => f34 (plAns p).1 (by have := ans_len p; omega) H
  rw [cal_of at18]
  cases hok : (plAns p).2 with
  | true =>
    have ha : placesAns p = ((plAns p).1, 0) := by simp [placesAns, hok]
    simp only [emptyAns, ha]
    simp only [hok] at h32
    simp only [c18, h32, h34, evX, Int.reduceEq, Int.reduceLT, Int.reduceLE, Nat.reduceMul, Nat.reduceMod, evW, fn_eq, evR, Nat.reduceAdd, Nat.reduceLT, Nat.reduceLeDiff, reduceIte, Nat.reduceEqDiff, reduceCtorEq, argEnv, eq_self, if_true, if_false]
    repeat' (first | (rw [guardK_cases]; split <;> simp only [c18, h32, h34, evX, Int.reduceEq, Int.reduceLT, Int.reduceLE, Nat.reduceMul, Nat.reduceMod, evW, evR, Nat.reduceAdd, Nat.reduceLT, Nat.reduceLeDiff, reduceIte, Nat.reduceEqDiff, reduceCtorEq, argEnv, eq_self, if_true, if_false, *]) | (rw [condK_bool]; split <;> simp only [c18, h32, h34, evX, Int.reduceEq, Int.reduceLT, Int.reduceLE, Nat.reduceMul, Nat.reduceMod, evW, evR, Nat.reduceAdd, Nat.reduceLT, Nat.reduceLeDiff, reduceIte, Nat.reduceEqDiff, reduceCtorEq, argEnv, eq_self, if_true, if_false, *]) | (rw [guardD_cases]; split <;> simp only [c18, h32, h34, evX, Int.reduceEq, Int.reduceLT, Int.reduceLE, Nat.reduceMul, Nat.reduceMod, evW, evR, Nat.reduceAdd, Nat.reduceLT, Nat.reduceLeDiff, reduceIte, Nat.reduceEqDiff, reduceCtorEq, argEnv, eq_self, if_true, if_false, *]))
  | false =>
    have ha : placesAns p = ([], 70) := by simp [placesAns, hok]
    simp only [emptyAns, ha]
    simp only [hok] at h32
    simp only [c18, h32, evX, Int.reduceEq, Int.reduceLT, Int.reduceLE, Nat.reduceMul, Nat.reduceMod, evW, fn_eq, evR, Nat.reduceAdd, Nat.reduceLT, Nat.reduceLeDiff, reduceIte, Nat.reduceEqDiff, reduceCtorEq, argEnv, eq_self, if_true, if_false]
    repeat' (first | (rw [guardK_cases]; split <;> simp only [c18, h32, evX, Int.reduceEq, Int.reduceLT, Int.reduceLE, Nat.reduceMul, Nat.reduceMod, evW, evR, Nat.reduceAdd, Nat.reduceLT, Nat.reduceLeDiff, reduceIte, Nat.reduceEqDiff, reduceCtorEq, argEnv, eq_self, if_true, if_false, *]) | (rw [condK_bool]; split <;> simp only [c18, h32, evX, Int.reduceEq, Int.reduceLT, Int.reduceLE, Nat.reduceMul, Nat.reduceMod, evW, evR, Nat.reduceAdd, Nat.reduceLT, Nat.reduceLeDiff, reduceIte, Nat.reduceEqDiff, reduceCtorEq, argEnv, eq_self, if_true, if_false, *]) | (rw [guardD_cases]; split <;> simp only [c18, h32, evX, Int.reduceEq, Int.reduceLT, Int.reduceLE, Nat.reduceMul, Nat.reduceMod, evW, evR, Nat.reduceAdd, Nat.reduceLT, Nat.reduceLeDiff, reduceIte, Nat.reduceEqDiff, reduceCtorEq, argEnv, eq_self, if_true, if_false, *]))
theorem f13 (p : List Nat) (hp : Page p) (H : Heap) : cal (evC cprog) false 13 [eB p] H = some (.bool (plAns p).2, H) := by
  have h32 := fun H => f32F p hp H
  rw [cal_of at13]
  simp only [c13, h32, evX, Int.reduceEq, Int.reduceLT, Int.reduceLE, Nat.reduceMul, Nat.reduceMod, evW, fn_eq, evR, Nat.reduceAdd, Nat.reduceLT, Nat.reduceLeDiff, reduceIte, Nat.reduceEqDiff, reduceCtorEq, argEnv, eq_self, if_true, if_false]
  repeat' (first | (rw [guardK_cases]; split <;> simp only [c13, h32, evX, Int.reduceEq, Int.reduceLT, Int.reduceLE, Nat.reduceMul, Nat.reduceMod, evW, evR, Nat.reduceAdd, Nat.reduceLT, Nat.reduceLeDiff, reduceIte, Nat.reduceEqDiff, reduceCtorEq, argEnv, eq_self, if_true, if_false, *]) | (rw [condK_bool]; split <;> simp only [c13, h32, evX, Int.reduceEq, Int.reduceLT, Int.reduceLE, Nat.reduceMul, Nat.reduceMod, evW, evR, Nat.reduceAdd, Nat.reduceLT, Nat.reduceLeDiff, reduceIte, Nat.reduceEqDiff, reduceCtorEq, argEnv, eq_self, if_true, if_false, *]) | (rw [guardD_cases]; split <;> simp only [c13, h32, evX, Int.reduceEq, Int.reduceLT, Int.reduceLE, Nat.reduceMul, Nat.reduceMod, evW, evR, Nat.reduceAdd, Nat.reduceLT, Nat.reduceLeDiff, reduceIte, Nat.reduceEqDiff, reduceCtorEq, argEnv, eq_self, if_true, if_false, *]))
theorem f14 (p : List Nat) (hp : Page p) (H : Heap) : cal (evC cprog) false 14 [eB p] H = some (.bool (plAns p).2, H) := by
  have h33 := fun H => f33 p hp H
  rw [cal_of at14]
  simp only [c14, h33, evX, Int.reduceEq, Int.reduceLT, Int.reduceLE, Nat.reduceMul, Nat.reduceMod, evW, fn_eq, evR, Nat.reduceAdd, Nat.reduceLT, Nat.reduceLeDiff, reduceIte, Nat.reduceEqDiff, reduceCtorEq, argEnv, eq_self, if_true, if_false]
  repeat' (first | (rw [guardK_cases]; split <;> simp only [c14, h33, evX, Int.reduceEq, Int.reduceLT, Int.reduceLE, Nat.reduceMul, Nat.reduceMod, evW, evR, Nat.reduceAdd, Nat.reduceLT, Nat.reduceLeDiff, reduceIte, Nat.reduceEqDiff, reduceCtorEq, argEnv, eq_self, if_true, if_false, *]) | (rw [condK_bool]; split <;> simp only [c14, h33, evX, Int.reduceEq, Int.reduceLT, Int.reduceLE, Nat.reduceMul, Nat.reduceMod, evW, evR, Nat.reduceAdd, Nat.reduceLT, Nat.reduceLeDiff, reduceIte, Nat.reduceEqDiff, reduceCtorEq, argEnv, eq_self, if_true, if_false, *]) | (rw [guardD_cases]; split <;> simp only [c14, h33, evX, Int.reduceEq, Int.reduceLT, Int.reduceLE, Nat.reduceMul, Nat.reduceMod, evW, evR, Nat.reduceAdd, Nat.reduceLT, Nat.reduceLeDiff, reduceIte, Nat.reduceEqDiff, reduceCtorEq, argEnv, eq_self, if_true, if_false, *]))
end Go.Proofs.Ythgcnlmmgilhjaa.Code
