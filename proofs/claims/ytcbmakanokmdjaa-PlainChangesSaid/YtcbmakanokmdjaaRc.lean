/- plain: which types are right for themselves, as the program and as the document ask. -/
import Derived.Test.YtcbmakanokmdjaaRb
set_option linter.unusedSimpArgs false
set_option linter.unusedVariables false
namespace Go.Proofs.Ytcbmakanokmdjaa.Code
open Go.Proofs.Ytcbmakanokmdjaa.Ev

noncomputable def fieldsOk (t : Ty) : Bool := fldsOk t.size t.fields && decide ((t.fields.length : Int) ≤ 5)
def keyOk (t : Ty) : Bool :=
  if t.key = -1 then !t.unique else decide (0 ≤ t.key) && match t.fields[t.key.toNat]? with
    | some f => decide (f.at' + f.bytes ≤ t.min)
    | none => false
def sizeOk (t : Ty) : Bool := decide (1 ≤ t.min) && decide (t.min ≤ t.size) && decide (t.size ≤ 40)
noncomputable def tyOk (t : Ty) : Bool := isName t.name && sizeOk t && fieldsOk t && keyOk t
theorem fld_of {t : Ty} (h : fieldsOk t = true) {i : Nat} {f : Fd} (hf : t.fields[i]? = some f) : 0 ≤ f.at' ∧ f.at' < t.size ∧ 1 ≤ f.bytes ∧ f.bytes ≤ t.size - f.at' := by
  simp only [fieldsOk, Bool.and_eq_true] at h
  have := tell_true.1 h.1 i f hf
  simp only [fldOk, Bool.and_eq_true, decide_eq_true_eq] at this
  omega
theorem wrapQ {a b : Int} (h1 : 0 ≤ a) (h2 : 0 ≤ b) (h3 : a ≤ 1000000000) (h4 : b ≤ 1000000000) : IntKind.i64.wrap (a + b) = a + b := wrap_i64 (by omega) (by omega)
/-- the four kinds of key -/
theorem key_cases (t : Ty) : t.key = -1 ∨ t.key < -1 ∨ (t.fields.length : Int) ≤ t.key ∨ ∃ (k : Nat) (f : Fd), t.key = (k : Int) ∧ t.fields[k]? = some f := by
  by_cases h1 : t.key = -1
  · exact .inl h1
  · by_cases h2 : t.key < -1
    · exact .inr (.inl h2)
    · by_cases h3 : (t.fields.length : Int) ≤ t.key
      · exact .inr (.inr (.inl h3))
      · exact .inr (.inr (.inr ⟨t.key.toNat, t.fields[t.key.toNat]'(by omega), by omega, List.getElem?_eq_getElem (by omega)⟩))
theorem key_far {t : Ty} (h : (t.fields.length : Int) ≤ t.key) : keyOk t = false := by
  unfold keyOk
  rw [if_neg (by omega), List.getElem?_eq_none (by omega)]
  simp
theorem key_neg {t : Ty} (h : t.key < -1) : keyOk t = false := by
  unfold keyOk
  rw [if_neg (by omega), decide_eq_false (by omega)]
  simp
theorem key_none {t : Ty} (h : t.key = -1) : keyOk t = !t.unique := by
  unfold keyOk
  rw [if_pos h]
theorem key_at {t : Ty} {k : Nat} {f : Fd} (h : t.key = (k : Int)) (hf : t.fields[k]? = some f) : keyOk t = decide (f.at' + f.bytes ≤ t.min) := by
  unfold keyOk
  rw [if_neg (by omega), h, decide_eq_true (by omega), Int.toNat_natCast, hf]
  simp
theorem f77 (t : Ty) (ht : t.Ok) (H : Heap) : cal (evC cprog) false 77 [.agg (rTy t)] H = some (.bool (tyOk t), H) := by
  rw [cal_of at77]
  have hn := f54 t.name ht.name
  by_cases hs : 1 ≤ t.min ∧ t.min ≤ t.size ∧ t.size ≤ 40
  · have hfl := fun H => f86 t.fields ht.fields ht.field t.size (by omega) (by omega) H
    have hsz : sizeOk t = true := by simp [sizeOk]; omega
    have n1 : ¬ t.min < 1 := by omega
    have n2 : ¬ t.size < t.min := by omega
    have n3 : ¬ 40 < t.size := by omega
    have hlen := fun H => (sFds H t.fields).len
    simp only [List.length_map] at hlen
    change ∀ H, cal (evC cprog) false 86 [eFds t.fields, .int .i64 t.size] H = some (.bool (fieldsOk t), H) at hfl
    cases hok : fieldsOk t with
    | false =>
      simp only [c77, rTy, hn, hfl, hok, n1, n2, n3, evX, Int.reduceEq, Int.reduceLT, Int.reduceLE, Nat.reduceMul, Nat.reduceMod, evW, fn_eq, evR, Nat.reduceAdd, Nat.reduceLT, Nat.reduceLeDiff, reduceIte, Nat.reduceEqDiff, reduceCtorEq, argEnv, eq_self, if_true, if_false]
      repeat' ((first | rw [guardK_cases] | rw [condK_bool] | rw [guardD_cases]); split <;> simp only [c77, rTy, hn, hfl, hok, n1, n2, n3, evX, Int.reduceEq, Int.reduceLT, Int.reduceLE, Nat.reduceMul, Nat.reduceMod, evW, evR, Nat.reduceAdd, Nat.reduceLT, Nat.reduceLeDiff, reduceIte, Nat.reduceEqDiff, reduceCtorEq, argEnv, eq_self, if_true, if_false, *])
      all_goals simp [tyOk, hok]
    | true =>
      rcases key_cases t with hk | hk | hk | ⟨k, f, hk, hf⟩
      · have hkk := key_none hk
        simp only [c77, rTy, hn, hfl, hok, n1, n2, n3, hk, evX, Int.reduceEq, Int.reduceLT, Int.reduceLE, Nat.reduceMul, Nat.reduceMod, evW, fn_eq, evR, Nat.reduceAdd, Nat.reduceLT, Nat.reduceLeDiff, reduceIte, Nat.reduceEqDiff, reduceCtorEq, argEnv, eq_self, if_true, if_false]
        repeat' ((first | rw [guardK_cases] | rw [condK_bool] | rw [guardD_cases]); split <;> simp only [c77, rTy, hn, hfl, hok, n1, n2, n3, hk, evX, Int.reduceEq, Int.reduceLT, Int.reduceLE, Nat.reduceMul, Nat.reduceMod, evW, evR, Nat.reduceAdd, Nat.reduceLT, Nat.reduceLeDiff, reduceIte, Nat.reduceEqDiff, reduceCtorEq, argEnv, eq_self, if_true, if_false, *])
        all_goals simp_all [tyOk]
      · have hkk := key_neg hk
        have k1 : ¬ t.key = -1 := by omega
        have k2 : t.key < 0 := by omega
        simp only [c77, rTy, hn, hfl, hok, n1, n2, n3, k1, k2, evX, Int.reduceEq, Int.reduceLT, Int.reduceLE, Nat.reduceMul, Nat.reduceMod, evW, fn_eq, evR, Nat.reduceAdd, Nat.reduceLT, Nat.reduceLeDiff, reduceIte, Nat.reduceEqDiff, reduceCtorEq, argEnv, eq_self, if_true, if_false]
        repeat' ((first | rw [guardK_cases] | rw [condK_bool] | rw [guardD_cases]); split <;> simp only [c77, rTy, hn, hfl, hok, n1, n2, n3, k1, k2, evX, Int.reduceEq, Int.reduceLT, Int.reduceLE, Nat.reduceMul, Nat.reduceMod, evW, evR, Nat.reduceAdd, Nat.reduceLT, Nat.reduceLeDiff, reduceIte, Nat.reduceEqDiff, reduceCtorEq, argEnv, eq_self, if_true, if_false, *])
        all_goals simp_all [tyOk]
      · have hkk := key_far hk
        have k1 : ¬ t.key = -1 := by omega
        have k2 : ¬ t.key < 0 := by omega
        have hlen' := (sFds [] t.fields).len
        simp only [List.length_map] at hlen'
        simp only [c77, rTy, hn, hfl, hok, n1, n2, n3, k1, k2, hlen', hk, evX, Int.reduceEq, Int.reduceLT, Int.reduceLE, Nat.reduceMul, Nat.reduceMod, evW, fn_eq, evR, Nat.reduceAdd, Nat.reduceLT, Nat.reduceLeDiff, reduceIte, Nat.reduceEqDiff, reduceCtorEq, argEnv, eq_self, if_true, if_false]
        repeat' ((first | rw [guardK_cases] | rw [condK_bool] | rw [guardD_cases]); split <;> simp only [c77, rTy, hn, hfl, hok, n1, n2, n3, k1, k2, hlen', hk, evX, Int.reduceEq, Int.reduceLT, Int.reduceLE, Nat.reduceMul, Nat.reduceMod, evW, evR, Nat.reduceAdd, Nat.reduceLT, Nat.reduceLeDiff, reduceIte, Nat.reduceEqDiff, reduceCtorEq, argEnv, eq_self, if_true, if_false, *])
        all_goals simp_all [tyOk]
      · have hkk := key_at hk hf
        have hk1 : ¬ (k : Int) = -1 := by omega
        have hk2 : ¬ (k : Int) < 0 := by omega
        have hk3 : ¬ (t.fields.length : Int) ≤ (k : Int) := by have := (List.getElem?_eq_some_iff.1 hf).1; omega
        have hfo := fld_of hok hf
        have hlen' := (sFds [] t.fields).len
        simp only [List.length_map] at hlen'
        have hg := fun X => (sFds (H ++ X) t.fields).get k (rFd f) (by rw [List.getElem?_map, hf]; rfl)
        obtain ⟨_, p, hp, _⟩ := (sFds [] t.fields).get k (rFd f) (by rw [List.getElem?_map, hf]; rfl)
        have hat : ∀ H, PtrAt H p (rFd f) := fun H => by
          obtain ⟨_, p', hp', h'⟩ := (sFds H t.fields).get k (rFd f) (by rw [List.getElem?_map, hf]; rfl)
          rw [hp] at hp'; cases hp'; exact h'
        have hw := wrapQ (a := f.at') (b := f.bytes) (by omega) (by omega) (by omega) (by omega)
        have hl1 := fun o s H => (hat H).fld o s
        have hl2 := fun o => (hat []).faddr o
        simp only [rFd] at hl1
        simp only [c77, rTy, hn, hfl, hok, n1, n2, n3, hk, hk1, hk2, hk3, hlen', hp, hl1, hl2, hw, evX, Int.reduceEq, Int.reduceLT, Int.reduceLE, Nat.reduceMul, Nat.reduceMod, evW, fn_eq, evR, Nat.reduceAdd, Nat.reduceLT, Nat.reduceLeDiff, reduceIte, Nat.reduceEqDiff, reduceCtorEq, argEnv, eq_self, if_true, if_false]
        repeat' ((first | rw [guardK_cases] | rw [condK_bool] | rw [guardD_cases]); split <;> simp only [c77, rTy, hn, hfl, hok, n1, n2, n3, hk, hk1, hk2, hk3, hlen', hp, hl1, hl2, hw, evX, Int.reduceEq, Int.reduceLT, Int.reduceLE, Nat.reduceMul, Nat.reduceMod, evW, evR, Nat.reduceAdd, Nat.reduceLT, Nat.reduceLeDiff, reduceIte, Nat.reduceEqDiff, reduceCtorEq, argEnv, eq_self, if_true, if_false, *])
        all_goals simp_all [tyOk]
  · have hsz : sizeOk t = false := by
      cases h : sizeOk t
      · rfl
      · simp [sizeOk] at h; omega
    have ht : tyOk t = false := by simp [tyOk, hsz]
    rw [ht]
    by_cases n1 : t.min < 1
    · simp only [c77, rTy, hn, n1, evX, Int.reduceEq, Int.reduceLT, Int.reduceLE, Nat.reduceMul, Nat.reduceMod, evW, fn_eq, evR, Nat.reduceAdd, Nat.reduceLT, Nat.reduceLeDiff, reduceIte, Nat.reduceEqDiff, reduceCtorEq, argEnv, eq_self, if_true, if_false]
      repeat' ((first | rw [guardK_cases] | rw [condK_bool] | rw [guardD_cases]); split <;> simp only [c77, rTy, hn, n1, evX, Int.reduceEq, Int.reduceLT, Int.reduceLE, Nat.reduceMul, Nat.reduceMod, evW, evR, Nat.reduceAdd, Nat.reduceLT, Nat.reduceLeDiff, reduceIte, Nat.reduceEqDiff, reduceCtorEq, argEnv, eq_self, if_true, if_false, *])
    · by_cases n2 : t.size < t.min
      · simp only [c77, rTy, hn, n1, n2, evX, Int.reduceEq, Int.reduceLT, Int.reduceLE, Nat.reduceMul, Nat.reduceMod, evW, fn_eq, evR, Nat.reduceAdd, Nat.reduceLT, Nat.reduceLeDiff, reduceIte, Nat.reduceEqDiff, reduceCtorEq, argEnv, eq_self, if_true, if_false]
        repeat' ((first | rw [guardK_cases] | rw [condK_bool] | rw [guardD_cases]); split <;> simp only [c77, rTy, hn, n1, n2, evX, Int.reduceEq, Int.reduceLT, Int.reduceLE, Nat.reduceMul, Nat.reduceMod, evW, evR, Nat.reduceAdd, Nat.reduceLT, Nat.reduceLeDiff, reduceIte, Nat.reduceEqDiff, reduceCtorEq, argEnv, eq_self, if_true, if_false, *])
      · have n3 : 40 < t.size := by omega
        simp only [c77, rTy, hn, n1, n2, n3, evX, Int.reduceEq, Int.reduceLT, Int.reduceLE, Nat.reduceMul, Nat.reduceMod, evW, fn_eq, evR, Nat.reduceAdd, Nat.reduceLT, Nat.reduceLeDiff, reduceIte, Nat.reduceEqDiff, reduceCtorEq, argEnv, eq_self, if_true, if_false]
        repeat' ((first | rw [guardK_cases] | rw [condK_bool] | rw [guardD_cases]); split <;> simp only [c77, rTy, hn, n1, n2, n3, evX, Int.reduceEq, Int.reduceLT, Int.reduceLE, Nat.reduceMul, Nat.reduceMod, evW, evR, Nat.reduceAdd, Nat.reduceLT, Nat.reduceLeDiff, reduceIte, Nat.reduceEqDiff, reduceCtorEq, argEnv, eq_self, if_true, if_false, *])
end Go.Proofs.Ytcbmakanokmdjaa.Code
