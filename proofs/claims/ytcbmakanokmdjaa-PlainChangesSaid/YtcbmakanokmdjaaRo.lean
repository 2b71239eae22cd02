/- plain: items and keys, as the program asks. -/
import Derived.Test.YtcbmakanokmdjaaRn
set_option linter.unusedSimpArgs false
set_option linter.unusedVariables false
namespace Go.Proofs.Ytcbmakanokmdjaa.Code
open Go.Proofs.Ytcbmakanokmdjaa.Ev

def bItems (f : List Item) : Blk := ⟨0, true, 26, 1, [[eItems f]]⟩
def bI (n : Int) : Blk := ⟨0, true, 3, 1, [[.int .i64 n]]⟩
def bItem (x : Item) : Blk := ⟨0, true, 50, 2, [rItem x]⟩
theorem fits_none {ts : List Ty} {x : Item} (h : ¬ (0 ≤ x.type ∧ x.type < ts.length)) : fits ts x = false := by
  unfold fits
  split
  · rename_i t ht
    have := (List.getElem?_eq_some_iff.1 ht).1
    rw [decide_eq_false (by omega)]; rfl
  · rfl
theorem fits_at {ts : List Ty} {x : Item} {k : Nat} {t : Ty} (hk : x.type = (k : Int)) (ht : ts[k]? = some t) : fits ts x = (decide (t.min ≤ (x.data.size : Int)) && decide ((x.data.size : Int) ≤ t.size)) := by
  simp [fits, hk, ht]
theorem f42 (b : Base) (x : Item) (H : Heap) : cal (evC cprog) false 42 [eBase b, .agg (rItem x)] H = some (.bool (fits b.types x), H) := by
  rw [cal_of at42]
  have hlen := (sTys [] b.types).len
  simp only [List.length_map] at hlen
  by_cases h1 : 0 ≤ x.type
  · by_cases h2 : x.type < (b.types.length : Int)
    · obtain ⟨k, hk⟩ : ∃ k : Nat, x.type = (k : Int) := ⟨x.type.toNat, by omega⟩
      obtain ⟨t, ht⟩ : ∃ t, b.types[k]? = some t := ⟨_, List.getElem?_eq_getElem (by omega)⟩
      have hat := aTy ht
      have k1 : (0 : Int) ≤ (k : Int) := by omega
      have k2 : (k : Int) < (b.types.length : Int) := by omega
      rw [fits_at hk ht]
      simp only [c42, eBase, rItem, rTy, hk, k1, k2, hlen, hat, evX, Int.reduceEq, Int.reduceLT, Int.reduceLE, Nat.reduceMul, Nat.reduceMod, evW, fn_eq, evR, Nat.reduceAdd, Nat.reduceLT, Nat.reduceLeDiff, reduceIte, Nat.reduceEqDiff, reduceCtorEq, argEnv, eq_self, if_true, if_false]
      repeat' ((first | rw [guardK_cases] | rw [condK_bool] | rw [guardD_cases]); split <;> simp only [c42, eBase, rItem, rTy, hk, k1, k2, hlen, hat, evX, Int.reduceEq, Int.reduceLT, Int.reduceLE, Nat.reduceMul, Nat.reduceMod, evW, evR, Nat.reduceAdd, Nat.reduceLT, Nat.reduceLeDiff, reduceIte, Nat.reduceEqDiff, reduceCtorEq, argEnv, eq_self, if_true, if_false, *])
      all_goals simp_all
    · rw [fits_none (by omega)]
      simp only [c42, eBase, rItem, h1, h2, hlen, evX, Int.reduceEq, Int.reduceLT, Int.reduceLE, Nat.reduceMul, Nat.reduceMod, evW, fn_eq, evR, Nat.reduceAdd, Nat.reduceLT, Nat.reduceLeDiff, reduceIte, Nat.reduceEqDiff, reduceCtorEq, argEnv, eq_self, if_true, if_false]
      repeat' ((first | rw [guardK_cases] | rw [condK_bool] | rw [guardD_cases]); split <;> simp only [c42, eBase, rItem, h1, h2, hlen, evX, Int.reduceEq, Int.reduceLT, Int.reduceLE, Nat.reduceMul, Nat.reduceMod, evW, evR, Nat.reduceAdd, Nat.reduceLT, Nat.reduceLeDiff, reduceIte, Nat.reduceEqDiff, reduceCtorEq, argEnv, eq_self, if_true, if_false, *])
  · rw [fits_none (by omega)]
    simp only [c42, eBase, rItem, h1, evX, Int.reduceEq, Int.reduceLT, Int.reduceLE, Nat.reduceMul, Nat.reduceMod, evW, fn_eq, evR, Nat.reduceAdd, Nat.reduceLT, Nat.reduceLeDiff, reduceIte, Nat.reduceEqDiff, reduceCtorEq, argEnv, eq_self, if_true, if_false]
    repeat' ((first | rw [guardK_cases] | rw [condK_bool] | rw [guardD_cases]); split <;> simp only [c42, eBase, rItem, h1, evX, Int.reduceEq, Int.reduceLT, Int.reduceLE, Nat.reduceMul, Nat.reduceMod, evW, evR, Nat.reduceAdd, Nat.reduceLT, Nat.reduceLeDiff, reduceIte, Nat.reduceEqDiff, reduceCtorEq, argEnv, eq_self, if_true, if_false, *])
/-- a key is within the data -/
theorem key_in {t : Ty} (ht : tyOk t = true) (hk : 0 ≤ t.key) : ∃ (k : Nat) (f : Fd), t.key = (k : Int) ∧ t.fields[k]? = some f ∧ 0 ≤ f.at' ∧ 1 ≤ f.bytes ∧ f.at' + f.bytes ≤ t.min ∧ t.min ≤ 40 := by
  simp only [tyOk, Bool.and_eq_true] at ht
  obtain ⟨⟨⟨_, h1⟩, h2⟩, h3⟩ := ht
  simp only [sizeOk, Bool.and_eq_true, decide_eq_true_eq] at h1
  rcases key_cases t with h | h | h | ⟨k, f, h4, h5⟩
  · omega
  · omega
  · rw [key_far h] at h3; cases h3
  · rw [key_at h4 h5] at h3
    have := of_decide_eq_true h3
    have := fld_of h2 h5
    exact ⟨k, f, h4, h5, by omega, by omega, by omega, by omega⟩
theorem keyOf_at {t : Ty} {k : Nat} {f : Fd} (hk : t.key = (k : Int)) (hf : t.fields[k]? = some f) (d : ByteArray) : keyOf t d = d.extract f.at'.toNat (f.at' + f.bytes).toNat := by
  unfold keyOf
  rw [if_neg (by omega), hk, Int.toNat_natCast, hf]
theorem slcs_at (d : ByteArray) {a c : Int} (h1 : 0 ≤ a) (h2 : a ≤ c) (h3 : c ≤ d.size) : evSlcs d (some a.toNat) (some c.toNat) = some (.str (d.extract a.toNat c.toNat)) := by
  simp only [evSlcs, Option.getD_some]
  rw [if_pos (by omega)]
theorem asNat_int {a : Int} (h : 0 ≤ a) (k : IntKind) : asNat (.int k a) = some a.toNat := by simp [asNat, h]
def slcsK (x : Option AV) (lo hi : Option (Option Nat)) : Option AV :=
  match x, lo, hi with
  | some (.str s), some l, some h => evSlcs s l h
  | _, _, _ => none
theorem p_slcs {call : Nat → List AV → Heap → Option (AV × Heap)} (T : Env) (H : Heap) (x : COpd) (lo hi : Option COpd) : evOp call T H (.slcs x lo hi) = pureK H (slcsK (evOpd T x) (evNat T lo) (evNat T hi)) := evOp_pureK rfl
theorem slcsK_some (s : ByteArray) (l h : Option Nat) : slcsK (some (.str s)) (some l) (some h) = evSlcs s l h := rfl
theorem f43 (t : Ty) (ht : tyOk t = true) (d : ByteArray) (hd : t.min ≤ d.size) (H : Heap) : cal (evC cprog) false 43 [.agg (rTy t), .str d] H = some (.str (keyOf t d), H) := by
  rw [cal_of at43]
  by_cases hk : t.key < 0
  · simp only [c43, rTy, hk, evX, Int.reduceEq, Int.reduceLT, Int.reduceLE, Nat.reduceMul, Nat.reduceMod, evW, fn_eq, evR, Nat.reduceAdd, Nat.reduceLT, Nat.reduceLeDiff, reduceIte, Nat.reduceEqDiff, reduceCtorEq, argEnv, eq_self, if_true, if_false]
    repeat' ((first | rw [guardK_cases] | rw [condK_bool] | rw [guardD_cases]); split <;> simp only [c43, rTy, hk, evX, Int.reduceEq, Int.reduceLT, Int.reduceLE, Nat.reduceMul, Nat.reduceMod, evW, evR, Nat.reduceAdd, Nat.reduceLT, Nat.reduceLeDiff, reduceIte, Nat.reduceEqDiff, reduceCtorEq, argEnv, eq_self, if_true, if_false, *])
    simp [keyOf, hk]
  · obtain ⟨k, f, h1, h2, h3, h4, h5, h6⟩ := key_in ht (by omega)
    have haf := aFd h2
    have hw := wrapQ (a := f.at') (b := f.bytes) (by omega) (by omega) (by omega) (by omega)
    have k0 : ¬ (k : Int) < 0 := by omega
    have hsl := slcs_at d (a := f.at') (c := f.at' + f.bytes) h3 (by omega) (by omega)
    rw [keyOf_at h1 h2]
    simp only [c43, rTy, rFd, h1, k0, haf, hw, p_slcs, slcsK_some, asNat_int h3, asNat_int (show 0 ≤ f.at' + f.bytes by omega), hsl, evX, Int.reduceEq, Int.reduceLT, Int.reduceLE, Nat.reduceMul, Nat.reduceMod, evW, fn_eq, evR, Nat.reduceAdd, Nat.reduceLT, Nat.reduceLeDiff, reduceIte, Nat.reduceEqDiff, reduceCtorEq, argEnv, eq_self, if_true, if_false]
    repeat' ((first | rw [guardK_cases] | rw [condK_bool] | rw [guardD_cases]); split <;> simp only [c43, rTy, rFd, h1, k0, haf, hw, p_slcs, slcsK_some, asNat_int h3, asNat_int (show 0 ≤ f.at' + f.bytes by omega), hsl, evX, Int.reduceEq, Int.reduceLT, Int.reduceLE, Nat.reduceMul, Nat.reduceMod, evW, evR, Nat.reduceAdd, Nat.reduceLT, Nat.reduceLeDiff, reduceIte, Nat.reduceEqDiff, reduceCtorEq, argEnv, eq_self, if_true, if_false, *])
theorem f59 (t : Ty) (ht : tyOk t = true) (d e : ByteArray) (hd : t.min ≤ d.size) (he : t.min ≤ e.size) (H : Heap) : cal (evC cprog) false 59 [.agg (rTy t), .str d, .str e] H = some (.bool (inOrd t d e), H) := by
  rw [cal_of at59]
  by_cases hk : t.key < 0
  · simp only [c59, rTy, hk, evX, Int.reduceEq, Int.reduceLT, Int.reduceLE, Nat.reduceMul, Nat.reduceMod, evW, fn_eq, evR, Nat.reduceAdd, Nat.reduceLT, Nat.reduceLeDiff, reduceIte, Nat.reduceEqDiff, reduceCtorEq, argEnv, eq_self, if_true, if_false]
    repeat' ((first | rw [guardK_cases] | rw [condK_bool] | rw [guardD_cases]); split <;> simp only [c59, rTy, hk, evX, Int.reduceEq, Int.reduceLT, Int.reduceLE, Nat.reduceMul, Nat.reduceMod, evW, evR, Nat.reduceAdd, Nat.reduceLT, Nat.reduceLeDiff, reduceIte, Nat.reduceEqDiff, reduceCtorEq, argEnv, eq_self, if_true, if_false, *])
    simp [inOrd, hk]
  · have h1 := f43 t ht d hd
    have h2 := f43 t ht e he
    simp only [rTy] at h1 h2
    simp only [c59, rTy, hk, h1, h2, evX, Int.reduceEq, Int.reduceLT, Int.reduceLE, Nat.reduceMul, Nat.reduceMod, evW, fn_eq, evR, Nat.reduceAdd, Nat.reduceLT, Nat.reduceLeDiff, reduceIte, Nat.reduceEqDiff, reduceCtorEq, argEnv, eq_self, if_true, if_false]
    repeat' ((first | rw [guardK_cases] | rw [condK_bool] | rw [guardD_cases]); split <;> simp only [c59, rTy, hk, h1, h2, evX, Int.reduceEq, Int.reduceLT, Int.reduceLE, Nat.reduceMul, Nat.reduceMod, evW, evR, Nat.reduceAdd, Nat.reduceLT, Nat.reduceLeDiff, reduceIte, Nat.reduceEqDiff, reduceCtorEq, argEnv, eq_self, if_true, if_false, *])
    all_goals (cases h3 : t.unique <;> simp_all [inOrd])
theorem f58 (f : List Item) (p : Int) (k : Nat) (hk : k < f.length) (b1 b2 : Nat) (H : Heap) (h1 : Sits H b1 (bItems f)) (h2 : Sits H b2 (bI p)) : cal (evC cprog) false 58 [.int .i64 (k : Int), .ptr b1 0 1 0 0, .ptr b2 0 1 0 0] H = some (.bool (decide (typ f (k : Int) = p)), H) := by
  rw [cal_of at58]
  obtain ⟨x, hx⟩ : ∃ x, f[k]? = some x := ⟨_, List.getElem?_eq_getElem hk⟩
  have ha := aItem hx
  have g1 := h1.at
  have g2 := h2.at
  simp only [bItems, bI] at g1 g2
  rw [typ_at hx]
  simp only [c58, ha, g1, g2, rItem, evX, Int.reduceEq, Int.reduceLT, Int.reduceLE, Nat.reduceMul, Nat.reduceMod, evW, fn_eq, evR, Nat.reduceAdd, Nat.reduceLT, Nat.reduceLeDiff, reduceIte, Nat.reduceEqDiff, reduceCtorEq, argEnv, eq_self, if_true, if_false]
  repeat' ((first | rw [guardK_cases] | rw [condK_bool] | rw [guardD_cases]); split <;> simp only [c58, ha, g1, g2, rItem, evX, Int.reduceEq, Int.reduceLT, Int.reduceLE, Nat.reduceMul, Nat.reduceMod, evW, evR, Nat.reduceAdd, Nat.reduceLT, Nat.reduceLeDiff, reduceIte, Nat.reduceEqDiff, reduceCtorEq, argEnv, eq_self, if_true, if_false, *])
end Go.Proofs.Ytcbmakanokmdjaa.Code
