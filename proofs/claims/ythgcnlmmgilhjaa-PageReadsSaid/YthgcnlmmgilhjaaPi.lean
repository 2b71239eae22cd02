/- page: bytes taken out, and laid over others. -/
import Derived.Test.YthgcnlmmgilhjaaPh
set_option linter.unusedSimpArgs false
set_option linter.unusedVariables false
namespace Go.Proofs.Ythgcnlmmgilhjaa.Code
open Go.Proofs.Ythgcnlmmgilhjaa.Ev

theorem f39 (q : List Nat) (hne : q ≠ []) (hl : q.length ≤ 1000000) (H : Heap) : cal (evC cprog) false 39 [eB q] H = some (.ref H.length 0 1 0 q.length, H ++ [bP 0 q]) := by
  cases q with
  | nil => exact absurd rfl hne
  | cons n q =>
    have := clone_lst at39' (rB n) (q.map rB) H rfl (by simp only [List.length_cons, List.length_map, reach] at *; omega)
    simpa [eB, bP] using this
theorem fz_B (H : Heap) (v : Nat) (q : List Nat) (hne : q ≠ []) (X : Heap) : ∃ ids, fz (H ++ (bP v q :: X)) 8 (.ref H.length v 1 0 q.length) = some (eB q, ids) ∧ ∀ b ∈ ids, H.length ≤ b := by
  have hO : Out H.length 1 5 (bP v q :: X) (.ref H.length v 1 0 q.length) (q.map rB) := .inr ⟨by simpa using hne, 0, v, by simp, rfl⟩
  exact fz_out hO H rfl (fun r hr a ha => by
    obtain ⟨n, _, rfl⟩ := List.mem_map.1 hr
    simp [rB] at ha
    subst ha
    exact ⟨rfl, fun m H => rfl⟩) 6
theorem calF_B {H X : Heap} {v : Nat} (q : List Nat) (hne : q ≠ []) (e : Int) : calK true H (some (.tup [.ref H.length v 1 0 q.length, .int .i64 e], H ++ (bP v q :: X))) = some (.tup [eB q, .int .i64 e], H) := by
  obtain ⟨ids, h1, h2⟩ := fz_B H v q hne X
  refine calK_frz (ids := ids) ?_ rfl (by simp) h2
  show (fzCells (fz1 _) [.ref H.length v 1 0 q.length, .int .i64 e]).map _ = _
  have e1 : fz1 (H ++ (bP v q :: X)) (.ref H.length v 1 0 q.length) = fz (H ++ (bP v q :: X)) 8 (.ref H.length v 1 0 q.length) := rfl
  have e2 : fz1 (H ++ (bP v q :: X)) (.int .i64 e) = some (.int .i64 e, []) := rfl
  simp only [fzCells, e1, h1, e2, Option.map_some, List.append_nil]
theorem calF_noB {H : Heap} (X : Heap) (e : Int) : calK true H (some (.tup [.nils, .int .i64 e], H ++ X)) = some (.tup [eB [], .int .i64 e], H) :=
  calK_frz (ids := []) rfl rfl (by simp) (by simp)
def sub (p : List Nat) (a n : Nat) : List Nat := (p.take (a + n)).drop a
theorem slc_B (p : List Nat) {a n : Nat} (h : a + n ≤ p.length) (H : Heap) : evSlc H 1 (eB p) (some a) (some (a + n)) none = some (eB (sub p a n)) := by
  have hh : headOk 1 (p.map rB) = true := by cases p <;> simp [headOk, rB]
  show (if headOk 1 (p.map rB) = true ∧ a ≤ a + n ∧ a + n ≤ (p.map rB).length then some (AV.lst (((p.map rB).take (a + n)).drop a)) else none) = _
  rw [if_pos ⟨hh, by omega, by simpa using h⟩]
  simp [sub, eB, List.map_take, List.map_drop]
theorem sub_len (p : List Nat) {a n : Nat} (h : a + n ≤ p.length) : (sub p a n).length = n := by simp [sub]; omega
/-- what Get answers -/
def getAns (p : List Nat) (a n : Int) : List Nat × Int := if (isUsedAns p a n).2 ≠ 0 then ([], (isUsedAns p a n).2) else if (isUsedAns p a n).1 = false then ([], 2) else (sub p a.toNat n.toNat, 0)
theorem used_in {p : List Nat} {a n : Int} (h : (isUsedAns p a n).2 = 0) : withinOk a n ∧ p.length = 128 := by
  unfold isUsedAns at h
  split at h
  · cases h
  · rename_i hok
    split at h
    · cases h
    · rename_i hw
      exact ⟨Decidable.not_not.1 hw, ans_128 p (by simpa using hok)⟩
theorem app_B (q : List Nat) (hne : q ≠ []) (hl : q.length ≤ 1000000) (H : Heap) : appK 5 1 1 false H (some .nil0) (some (eB q)) = some (.ref H.length 0 1 0 q.length, H ++ [bP 0 q]) := by
  have := app_nil0 (ty := 5) (sz := 1) (bytes := 1) (H := H) (a := eB q) (src := q.map rB) rfl (by simpa using hne) (by cases q <;> simp [headOk, rB]) (by simp only [List.length_map, reach]; omega)
  simpa [bP] using this
theorem f24 (p : List Nat) (hp : Page p) (a n : Int) (H : Heap) : cal (evC cprog) true 24 [eB p, .int .i64 a, .int .i64 n] H = some (.tup [eB (getAns p a n).1, .int .i64 (getAns p a n).2], H) := by
  have h22 := fun H => f22 p hp a n H
  rw [cal_of at24]
  by_cases he : (isUsedAns p a n).2 = 0
  · cases hi : (isUsedAns p a n).1 with
    | false =>
      have ha : getAns p a n = ([], 2) := by simp [getAns, he, hi]
      rw [ha]
      simp only [he, hi] at h22
      simp only [c24, h22, evX, Int.reduceEq, Int.reduceLT, Int.reduceLE, Nat.reduceMul, Nat.reduceMod, evW, fn_eq, evR, Nat.reduceAdd, Nat.reduceLT, Nat.reduceLeDiff, reduceIte, Nat.reduceEqDiff, reduceCtorEq, argEnv, eq_self, if_true, if_false]
      repeat' (first | (rw [guardK_cases]; split <;> simp only [c24, h22, evX, Int.reduceEq, Int.reduceLT, Int.reduceLE, Nat.reduceMul, Nat.reduceMod, evW, evR, Nat.reduceAdd, Nat.reduceLT, Nat.reduceLeDiff, reduceIte, Nat.reduceEqDiff, reduceCtorEq, argEnv, eq_self, if_true, if_false, *]) | (rw [condK_bool]; split <;> simp only [c24, h22, evX, Int.reduceEq, Int.reduceLT, Int.reduceLE, Nat.reduceMul, Nat.reduceMod, evW, evR, Nat.reduceAdd, Nat.reduceLT, Nat.reduceLeDiff, reduceIte, Nat.reduceEqDiff, reduceCtorEq, argEnv, eq_self, if_true, if_false, *]) | (rw [guardD_cases]; split <;> simp only [c24, h22, evX, Int.reduceEq, Int.reduceLT, Int.reduceLE, Nat.reduceMul, Nat.reduceMod, evW, evR, Nat.reduceAdd, Nat.reduceLT, Nat.reduceLeDiff, reduceIte, Nat.reduceEqDiff, reduceCtorEq, argEnv, eq_self, if_true, if_false, *]))
      simpa using calF_noB (H := H) [] 2
    | true =>
      obtain ⟨hw, h128⟩ := used_in he
      have ha : getAns p a n = (sub p a.toNat n.toNat, 0) := by simp [getAns, he, hi]
      rw [ha]
      simp only [he, hi] at h22
      unfold withinOk at hw
      obtain ⟨a, rfl⟩ : ∃ k : Nat, a = k := ⟨a.toNat, by omega⟩
      obtain ⟨n, rfl⟩ : ∃ k : Nat, n = k := ⟨n.toNat, by omega⟩
      have hwr := wrapA (a := a) (b := n) (by omega) (by omega)
      have hsl := fun H => slc_B p (a := a) (n := n) (by omega) H
      have hsn := sub_len p (a := a) (n := n) (by omega)
      have hne : sub p a n ≠ [] := by intro h; rw [h] at hsn; simp at hsn; omega
      have h39 := fun H => f39 (sub p a n) hne (by omega) H
      simp only [c24, h22, hwr, hsl, h39, Int.toNat_natCast, evX, Int.reduceEq, Int.reduceLT, Int.reduceLE, Nat.reduceMul, Nat.reduceMod, evW, fn_eq, evR, Nat.reduceAdd, Nat.reduceLT, Nat.reduceLeDiff, reduceIte, Nat.reduceEqDiff, reduceCtorEq, argEnv, eq_self, if_true, if_false]
      repeat' (first | (rw [guardK_cases]; split <;> simp only [c24, h22, hwr, hsl, h39, Int.toNat_natCast, evX, Int.reduceEq, Int.reduceLT, Int.reduceLE, Nat.reduceMul, Nat.reduceMod, evW, evR, Nat.reduceAdd, Nat.reduceLT, Nat.reduceLeDiff, reduceIte, Nat.reduceEqDiff, reduceCtorEq, argEnv, eq_self, if_true, if_false, *]) | (rw [condK_bool]; split <;> simp only [c24, h22, hwr, hsl, h39, Int.toNat_natCast, evX, Int.reduceEq, Int.reduceLT, Int.reduceLE, Nat.reduceMul, Nat.reduceMod, evW, evR, Nat.reduceAdd, Nat.reduceLT, Nat.reduceLeDiff, reduceIte, Nat.reduceEqDiff, reduceCtorEq, argEnv, eq_self, if_true, if_false, *]) | (rw [guardD_cases]; split <;> simp only [c24, h22, hwr, hsl, h39, Int.toNat_natCast, evX, Int.reduceEq, Int.reduceLT, Int.reduceLE, Nat.reduceMul, Nat.reduceMod, evW, evR, Nat.reduceAdd, Nat.reduceLT, Nat.reduceLeDiff, reduceIte, Nat.reduceEqDiff, reduceCtorEq, argEnv, eq_self, if_true, if_false, *]))
      exact calF_B (X := []) _ hne 0
  · have ha : getAns p a n = ([], (isUsedAns p a n).2) := by simp [getAns, he]
    rw [ha]
    simp only [c24, h22, he, evX, Int.reduceEq, Int.reduceLT, Int.reduceLE, Nat.reduceMul, Nat.reduceMod, evW, fn_eq, evR, Nat.reduceAdd, Nat.reduceLT, Nat.reduceLeDiff, reduceIte, Nat.reduceEqDiff, reduceCtorEq, argEnv, eq_self, if_true, if_false]
    repeat' (first | (rw [guardK_cases]; split <;> simp only [c24, h22, he, evX, Int.reduceEq, Int.reduceLT, Int.reduceLE, Nat.reduceMul, Nat.reduceMod, evW, evR, Nat.reduceAdd, Nat.reduceLT, Nat.reduceLeDiff, reduceIte, Nat.reduceEqDiff, reduceCtorEq, argEnv, eq_self, if_true, if_false, *]) | (rw [condK_bool]; split <;> simp only [c24, h22, he, evX, Int.reduceEq, Int.reduceLT, Int.reduceLE, Nat.reduceMul, Nat.reduceMod, evW, evR, Nat.reduceAdd, Nat.reduceLT, Nat.reduceLeDiff, reduceIte, Nat.reduceEqDiff, reduceCtorEq, argEnv, eq_self, if_true, if_false, *]) | (rw [guardD_cases]; split <;> simp only [c24, h22, he, evX, Int.reduceEq, Int.reduceLT, Int.reduceLE, Nat.reduceMul, Nat.reduceMod, evW, evR, Nat.reduceAdd, Nat.reduceLT, Nat.reduceLeDiff, reduceIte, Nat.reduceEqDiff, reduceCtorEq, argEnv, eq_self, if_true, if_false, *]))
    simpa using calF_noB (H := H) [] (isUsedAns p a n).2
theorem f25 (p : List Nat) (hp : Page p) (a n : Int) (H : Heap) : cal (evC cprog) true 25 [eB p, .int .i64 a, .int .i64 n] H = some (.tup [eB (getAns p a n).1, .int .i64 (getAns p a n).2], H) := by
  have h23 := fun H => f23 p hp a n H
  rw [cal_of at25]
  by_cases he : (isUsedAns p a n).2 = 0
  · cases hi : (isUsedAns p a n).1 with
    | false =>
      have ha : getAns p a n = ([], 2) := by simp [getAns, he, hi]
      rw [ha]
      simp only [he, hi] at h23
      simp only [c25, h23, evX, Int.reduceEq, Int.reduceLT, Int.reduceLE, Nat.reduceMul, Nat.reduceMod, evW, fn_eq, evR, Nat.reduceAdd, Nat.reduceLT, Nat.reduceLeDiff, reduceIte, Nat.reduceEqDiff, reduceCtorEq, argEnv, eq_self, if_true, if_false]
      repeat' (first | (rw [guardK_cases]; split <;> simp only [c25, h23, evX, Int.reduceEq, Int.reduceLT, Int.reduceLE, Nat.reduceMul, Nat.reduceMod, evW, evR, Nat.reduceAdd, Nat.reduceLT, Nat.reduceLeDiff, reduceIte, Nat.reduceEqDiff, reduceCtorEq, argEnv, eq_self, if_true, if_false, *]) | (rw [condK_bool]; split <;> simp only [c25, h23, evX, Int.reduceEq, Int.reduceLT, Int.reduceLE, Nat.reduceMul, Nat.reduceMod, evW, evR, Nat.reduceAdd, Nat.reduceLT, Nat.reduceLeDiff, reduceIte, Nat.reduceEqDiff, reduceCtorEq, argEnv, eq_self, if_true, if_false, *]) | (rw [guardD_cases]; split <;> simp only [c25, h23, evX, Int.reduceEq, Int.reduceLT, Int.reduceLE, Nat.reduceMul, Nat.reduceMod, evW, evR, Nat.reduceAdd, Nat.reduceLT, Nat.reduceLeDiff, reduceIte, Nat.reduceEqDiff, reduceCtorEq, argEnv, eq_self, if_true, if_false, *]))
      simpa using calF_noB (H := H) [] 2
    | true =>
      obtain ⟨hw, h128⟩ := used_in he
      have ha : getAns p a n = (sub p a.toNat n.toNat, 0) := by simp [getAns, he, hi]
      rw [ha]
      simp only [he, hi] at h23
      unfold withinOk at hw
      obtain ⟨a, rfl⟩ : ∃ k : Nat, a = k := ⟨a.toNat, by omega⟩
      obtain ⟨n, rfl⟩ : ∃ k : Nat, n = k := ⟨n.toNat, by omega⟩
      have hwr := wrapA (a := a) (b := n) (by omega) (by omega)
      have hsl := fun H => slc_B p (a := a) (n := n) (by omega) H
      have hsn := sub_len p (a := a) (n := n) (by omega)
      have hne : sub p a n ≠ [] := by intro h; rw [h] at hsn; simp at hsn; omega
      have hap := fun H => app_B (sub p a n) hne (by omega) H
      simp only [c25, h23, hwr, hsl, hap, Int.toNat_natCast, evX, Int.reduceEq, Int.reduceLT, Int.reduceLE, Nat.reduceMul, Nat.reduceMod, evW, fn_eq, evR, Nat.reduceAdd, Nat.reduceLT, Nat.reduceLeDiff, reduceIte, Nat.reduceEqDiff, reduceCtorEq, argEnv, eq_self, if_true, if_false]
      repeat' (first | (rw [guardK_cases]; split <;> simp only [c25, h23, hwr, hsl, hap, Int.toNat_natCast, evX, Int.reduceEq, Int.reduceLT, Int.reduceLE, Nat.reduceMul, Nat.reduceMod, evW, evR, Nat.reduceAdd, Nat.reduceLT, Nat.reduceLeDiff, reduceIte, Nat.reduceEqDiff, reduceCtorEq, argEnv, eq_self, if_true, if_false, *]) | (rw [condK_bool]; split <;> simp only [c25, h23, hwr, hsl, hap, Int.toNat_natCast, evX, Int.reduceEq, Int.reduceLT, Int.reduceLE, Nat.reduceMul, Nat.reduceMod, evW, evR, Nat.reduceAdd, Nat.reduceLT, Nat.reduceLeDiff, reduceIte, Nat.reduceEqDiff, reduceCtorEq, argEnv, eq_self, if_true, if_false, *]) | (rw [guardD_cases]; split <;> simp only [c25, h23, hwr, hsl, hap, Int.toNat_natCast, evX, Int.reduceEq, Int.reduceLT, Int.reduceLE, Nat.reduceMul, Nat.reduceMod, evW, evR, Nat.reduceAdd, Nat.reduceLT, Nat.reduceLeDiff, reduceIte, Nat.reduceEqDiff, reduceCtorEq, argEnv, eq_self, if_true, if_false, *]))
      exact calF_B (X := []) _ hne 0
  · have ha : getAns p a n = ([], (isUsedAns p a n).2) := by simp [getAns, he]
    rw [ha]
    simp only [c25, h23, he, evX, Int.reduceEq, Int.reduceLT, Int.reduceLE, Nat.reduceMul, Nat.reduceMod, evW, fn_eq, evR, Nat.reduceAdd, Nat.reduceLT, Nat.reduceLeDiff, reduceIte, Nat.reduceEqDiff, reduceCtorEq, argEnv, eq_self, if_true, if_false]
    repeat' (first | (rw [guardK_cases]; split <;> simp only [c25, h23, he, evX, Int.reduceEq, Int.reduceLT, Int.reduceLE, Nat.reduceMul, Nat.reduceMod, evW, evR, Nat.reduceAdd, Nat.reduceLT, Nat.reduceLeDiff, reduceIte, Nat.reduceEqDiff, reduceCtorEq, argEnv, eq_self, if_true, if_false, *]) | (rw [condK_bool]; split <;> simp only [c25, h23, he, evX, Int.reduceEq, Int.reduceLT, Int.reduceLE, Nat.reduceMul, Nat.reduceMod, evW, evR, Nat.reduceAdd, Nat.reduceLT, Nat.reduceLeDiff, reduceIte, Nat.reduceEqDiff, reduceCtorEq, argEnv, eq_self, if_true, if_false, *]) | (rw [guardD_cases]; split <;> simp only [c25, h23, he, evX, Int.reduceEq, Int.reduceLT, Int.reduceLE, Nat.reduceMul, Nat.reduceMod, evW, evR, Nat.reduceAdd, Nat.reduceLT, Nat.reduceLeDiff, reduceIte, Nat.reduceEqDiff, reduceCtorEq, argEnv, eq_self, if_true, if_false, *]))
    simpa using calF_noB (H := H) [] (isUsedAns p a n).2
/-- bytes laid over others -/
def putB (p : List Nat) (a : Nat) (b : List Nat) : List Nat := p.take a ++ b ++ p.drop (a + b.length)
theorem slr_B {H : Heap} (b v a : Nat) (h : a ≤ 128) : evSlc H 1 (.ref b v 1 0 128) (some a) none none = some (.ref b v 1 a (128 - a)) := by
  simp [evSlc, h]
theorem copy_B (H : Heap) (p : List Nat) (a : Nat) (b : List Nat) (hp : p.length = 128) (h : a + b.length ≤ 128) (hb : b ≠ []) : copyK 1 (H ++ [bP 0 p]) (some (.ref H.length 0 1 a (128 - a))) (some (eB b)) = some (.int .i64 (b.length : Int), H ++ [bP 0 (putB p a b)]) := by
  have hl := List.length_pos_iff.2 hb
  have hm : min (b.map rB).length (128 - a) = b.length := by simp; omega
  have hh : headOk 1 (b.map rB) = true := by cases b <;> simp [headOk, rB]
  have hs : srcRows (H ++ [bP 0 p]) (eB b) = some (b.map rB) := rfl
  have hk : curBlk (H ++ [bP 0 p]) H.length 0 1 = some (bP 0 p) := by simp [curBlk, bP]
  simp only [copyK, hs, evCopy, evLen, hm, hh, hk, if_true]
  rw [if_neg (by omega), if_neg (by simp)]
  simp [bP, putB, List.map_append, List.map_take, List.map_drop, List.take_of_length_le]
def putAns (p : List Nat) (a : Int) (b : List Nat) : List Nat × Int := if (getAns p a b.length).2 ≠ 0 then ([], (getAns p a b.length).2) else (putB p a.toNat b, 0)
theorem get_ok {p : List Nat} {a n : Int} (h : (getAns p a n).2 = 0) : (isUsedAns p a n).2 = 0 ∧ (isUsedAns p a n).1 = true := by
  unfold getAns at h
  split at h
  · rename_i h1; exact absurd h h1
  · rename_i h1
    split at h
    · cases h
    · rename_i h2; exact ⟨by simpa using h1, by simpa using h2⟩
theorem putB_len {p : List Nat} {a : Nat} {b : List Nat} (hp : p.length = 128) (h : a + b.length ≤ 128) : (putB p a b).length = 128 := by simp [putB]; omega
theorem f26 (p : List Nat) (hp : Page p) (a : Int) (b : List Nat) (hb : b.length < 9223372036854775807) (H : Heap) : cal (evC cprog) true 26 [eB p, .int .i64 a, eB b] H = some (.tup [eB (putAns p a b).1, .int .i64 (putAns p a b).2], H) := by
  have h22 := fun H => f22 p hp a (b.length : Int) H
  have hbl := (sB H b).len
  simp only [List.length_map] at hbl
  rw [cal_of at26]
  by_cases he : (isUsedAns p a b.length).2 = 0
  · cases hi : (isUsedAns p a b.length).1 with
    | false =>
      have ha : putAns p a b = ([], 2) := by simp [putAns, getAns, he, hi]
      rw [ha]
      simp only [he, hi] at h22
      simp only [c26, h22, hbl, evX, Int.reduceEq, Int.reduceLT, Int.reduceLE, Nat.reduceMul, Nat.reduceMod, evW, fn_eq, evR, Nat.reduceAdd, Nat.reduceLT, Nat.reduceLeDiff, reduceIte, Nat.reduceEqDiff, reduceCtorEq, argEnv, eq_self, if_true, if_false]
      repeat' (first | (rw [guardK_cases]; split <;> simp only [c26, h22, hbl, evX, Int.reduceEq, Int.reduceLT, Int.reduceLE, Nat.reduceMul, Nat.reduceMod, evW, evR, Nat.reduceAdd, Nat.reduceLT, Nat.reduceLeDiff, reduceIte, Nat.reduceEqDiff, reduceCtorEq, argEnv, eq_self, if_true, if_false, *]) | (rw [condK_bool]; split <;> simp only [c26, h22, hbl, evX, Int.reduceEq, Int.reduceLT, Int.reduceLE, Nat.reduceMul, Nat.reduceMod, evW, evR, Nat.reduceAdd, Nat.reduceLT, Nat.reduceLeDiff, reduceIte, Nat.reduceEqDiff, reduceCtorEq, argEnv, eq_self, if_true, if_false, *]) | (rw [guardD_cases]; split <;> simp only [c26, h22, hbl, evX, Int.reduceEq, Int.reduceLT, Int.reduceLE, Nat.reduceMul, Nat.reduceMod, evW, evR, Nat.reduceAdd, Nat.reduceLT, Nat.reduceLeDiff, reduceIte, Nat.reduceEqDiff, reduceCtorEq, argEnv, eq_self, if_true, if_false, *]))
      simpa using calF_noB (H := H) [] 2
    | true =>
      obtain ⟨hw, h128⟩ := used_in he
      have ha : putAns p a b = (putB p a.toNat b, 0) := by simp [putAns, getAns, he, hi]
      rw [ha]
      simp only [he, hi] at h22
      unfold withinOk at hw
      obtain ⟨a, rfl⟩ : ∃ k : Nat, a = k := ⟨a.toNat, by omega⟩
      have hne : p ≠ [] := by intro h; rw [h] at h128; simp at h128
      have hbn : b ≠ [] := by intro h; rw [h] at hw; simp at hw
      have h39 := fun H => f39 p hne (by omega) H
      rw [h128] at h39
      have hsl := fun (H : Heap) b v => slr_B (H := H) b v a (by omega)
      have hcp := copy_B H p a b h128 (by omega) hbn
      have hpl := putB_len (a := a) (b := b) h128 (by omega)
      simp only [c26, h22, hbl, h39, hsl, hcp, Int.toNat_natCast, evX, Int.reduceEq, Int.reduceLT, Int.reduceLE, Nat.reduceMul, Nat.reduceMod, evW, fn_eq, evR, Nat.reduceAdd, Nat.reduceLT, Nat.reduceLeDiff, reduceIte, Nat.reduceEqDiff, reduceCtorEq, argEnv, eq_self, if_true, if_false]
      repeat' (first | (rw [guardK_cases]; split <;> simp only [c26, h22, hbl, h39, hsl, hcp, Int.toNat_natCast, evX, Int.reduceEq, Int.reduceLT, Int.reduceLE, Nat.reduceMul, Nat.reduceMod, evW, evR, Nat.reduceAdd, Nat.reduceLT, Nat.reduceLeDiff, reduceIte, Nat.reduceEqDiff, reduceCtorEq, argEnv, eq_self, if_true, if_false, *]) | (rw [condK_bool]; split <;> simp only [c26, h22, hbl, h39, hsl, hcp, Int.toNat_natCast, evX, Int.reduceEq, Int.reduceLT, Int.reduceLE, Nat.reduceMul, Nat.reduceMod, evW, evR, Nat.reduceAdd, Nat.reduceLT, Nat.reduceLeDiff, reduceIte, Nat.reduceEqDiff, reduceCtorEq, argEnv, eq_self, if_true, if_false, *]) | (rw [guardD_cases]; split <;> simp only [c26, h22, hbl, h39, hsl, hcp, Int.toNat_natCast, evX, Int.reduceEq, Int.reduceLT, Int.reduceLE, Nat.reduceMul, Nat.reduceMod, evW, evR, Nat.reduceAdd, Nat.reduceLT, Nat.reduceLeDiff, reduceIte, Nat.reduceEqDiff, reduceCtorEq, argEnv, eq_self, if_true, if_false, *]))
      have hc := calF_B (H := H) (X := []) (v := 0) (putB p a b) (by intro h; rw [h] at hpl; simp at hpl) 0
      rw [hpl] at hc
      exact hc
  · have ha : putAns p a b = ([], (isUsedAns p a b.length).2) := by simp [putAns, getAns, he]
    rw [ha]
    simp only [c26, h22, hbl, he, evX, Int.reduceEq, Int.reduceLT, Int.reduceLE, Nat.reduceMul, Nat.reduceMod, evW, fn_eq, evR, Nat.reduceAdd, Nat.reduceLT, Nat.reduceLeDiff, reduceIte, Nat.reduceEqDiff, reduceCtorEq, argEnv, eq_self, if_true, if_false]
    repeat' (first | (rw [guardK_cases]; split <;> simp only [c26, h22, hbl, he, evX, Int.reduceEq, Int.reduceLT, Int.reduceLE, Nat.reduceMul, Nat.reduceMod, evW, evR, Nat.reduceAdd, Nat.reduceLT, Nat.reduceLeDiff, reduceIte, Nat.reduceEqDiff, reduceCtorEq, argEnv, eq_self, if_true, if_false, *]) | (rw [condK_bool]; split <;> simp only [c26, h22, hbl, he, evX, Int.reduceEq, Int.reduceLT, Int.reduceLE, Nat.reduceMul, Nat.reduceMod, evW, evR, Nat.reduceAdd, Nat.reduceLT, Nat.reduceLeDiff, reduceIte, Nat.reduceEqDiff, reduceCtorEq, argEnv, eq_self, if_true, if_false, *]) | (rw [guardD_cases]; split <;> simp only [c26, h22, hbl, he, evX, Int.reduceEq, Int.reduceLT, Int.reduceLE, Nat.reduceMul, Nat.reduceMod, evW, evR, Nat.reduceAdd, Nat.reduceLT, Nat.reduceLeDiff, reduceIte, Nat.reduceEqDiff, reduceCtorEq, argEnv, eq_self, if_true, if_false, *]))
    simpa using calF_noB (H := H) [] (isUsedAns p a b.length).2
theorem f27 (p : List Nat) (hp : Page p) (a : Int) (b : List Nat) (hb : b.length < 9223372036854775807) (H : Heap) : cal (evC cprog) true 27 [eB p, .int .i64 a, eB b] H = some (.tup [eB (putAns p a b).1, .int .i64 (putAns p a b).2], H) := by
  have h25 := fun H => f25 p hp a (b.length : Int) H
  have hbl := (sB H b).len
  simp only [List.length_map] at hbl
  rw [cal_of at27]
  by_cases he : (getAns p a b.length).2 = 0
  · obtain ⟨hu, _⟩ := get_ok he
    obtain ⟨hw, h128⟩ := used_in hu
    have ha : putAns p a b = (putB p a.toNat b, 0) := by simp [putAns, he]
    rw [ha]
    simp only [he] at h25
    unfold withinOk at hw
    obtain ⟨a, rfl⟩ : ∃ k : Nat, a = k := ⟨a.toNat, by omega⟩
    have hne : p ≠ [] := by intro h; rw [h] at h128; simp at h128
    have hbn : b ≠ [] := by intro h; rw [h] at hw; simp at hw
    have hap := fun H => app_B p hne (by omega) H
    rw [h128] at hap
    have hsl := fun (H : Heap) b v => slr_B (H := H) b v a (by omega)
    have hcp := copy_B H p a b h128 (by omega) hbn
    have hpl := putB_len (a := a) (b := b) h128 (by omega)
    simp only [c27, h25, hbl, hap, hsl, hcp, Int.toNat_natCast, evX, Int.reduceEq, Int.reduceLT, Int.reduceLE, Nat.reduceMul, Nat.reduceMod, evW, fn_eq, evR, Nat.reduceAdd, Nat.reduceLT, Nat.reduceLeDiff, reduceIte, Nat.reduceEqDiff, reduceCtorEq, argEnv, eq_self, if_true, if_false]
    repeat' (first | (rw [guardK_cases]; split <;> simp only [c27, h25, hbl, hap, hsl, hcp, Int.toNat_natCast, evX, Int.reduceEq, Int.reduceLT, Int.reduceLE, Nat.reduceMul, Nat.reduceMod, evW, evR, Nat.reduceAdd, Nat.reduceLT, Nat.reduceLeDiff, reduceIte, Nat.reduceEqDiff, reduceCtorEq, argEnv, eq_self, if_true, if_false, *]) | (rw [condK_bool]; split <;> simp only [c27, h25, hbl, hap, hsl, hcp, Int.toNat_natCast, evX, Int.reduceEq, Int.reduceLT, Int.reduceLE, Nat.reduceMul, Nat.reduceMod, evW, evR, Nat.reduceAdd, Nat.reduceLT, Nat.reduceLeDiff, reduceIte, Nat.reduceEqDiff, reduceCtorEq, argEnv, eq_self, if_true, if_false, *]) | (rw [guardD_cases]; split <;> simp only [c27, h25, hbl, hap, hsl, hcp, Int.toNat_natCast, evX, Int.reduceEq, Int.reduceLT, Int.reduceLE, Nat.reduceMul, Nat.reduceMod, evW, evR, Nat.reduceAdd, Nat.reduceLT, Nat.reduceLeDiff, reduceIte, Nat.reduceEqDiff, reduceCtorEq, argEnv, eq_self, if_true, if_false, *]))
    have hc := calF_B (H := H) (X := []) (v := 0) (putB p a b) (by intro h; rw [h] at hpl; simp at hpl) 0
    rw [hpl] at hc
    exact hc
  · have ha : putAns p a b = ([], (getAns p a b.length).2) := by simp [putAns, he]
    rw [ha]
    simp only [c27, h25, hbl, he, evX, Int.reduceEq, Int.reduceLT, Int.reduceLE, Nat.reduceMul, Nat.reduceMod, evW, fn_eq, evR, Nat.reduceAdd, Nat.reduceLT, Nat.reduceLeDiff, reduceIte, Nat.reduceEqDiff, reduceCtorEq, argEnv, eq_self, if_true, if_false]
    repeat' (first | (rw [guardK_cases]; split <;> simp only [c27, h25, hbl, he, evX, Int.reduceEq, Int.reduceLT, Int.reduceLE, Nat.reduceMul, Nat.reduceMod, evW, evR, Nat.reduceAdd, Nat.reduceLT, Nat.reduceLeDiff, reduceIte, Nat.reduceEqDiff, reduceCtorEq, argEnv, eq_self, if_true, if_false, *]) | (rw [condK_bool]; split <;> simp only [c27, h25, hbl, he, evX, Int.reduceEq, Int.reduceLT, Int.reduceLE, Nat.reduceMul, Nat.reduceMod, evW, evR, Nat.reduceAdd, Nat.reduceLT, Nat.reduceLeDiff, reduceIte, Nat.reduceEqDiff, reduceCtorEq, argEnv, eq_self, if_true, if_false, *]) | (rw [guardD_cases]; split <;> simp only [c27, h25, hbl, he, evX, Int.reduceEq, Int.reduceLT, Int.reduceLE, Nat.reduceMul, Nat.reduceMod, evW, evR, Nat.reduceAdd, Nat.reduceLT, Nat.reduceLeDiff, reduceIte, Nat.reduceEqDiff, reduceCtorEq, argEnv, eq_self, if_true, if_false, *]))
    simpa using calF_noB (H := H) [] (getAns p a b.length).2
end Go.Proofs.Ythgcnlmmgilhjaa.Code
