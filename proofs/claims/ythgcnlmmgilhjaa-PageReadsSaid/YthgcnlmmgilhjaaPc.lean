/- page: the heads of free places, written. -/
import Derived.Test.YthgcnlmmgilhjaaPb
set_option linter.unusedSimpArgs false
set_option linter.unusedVariables false
namespace Go.Proofs.Ythgcnlmmgilhjaa.Code
open Go.Proofs.Ythgcnlmmgilhjaa.Ev

/-- one place's head, written ahead of the others -/
def head1 (q : List Nat) (x : Pl) : List Nat := ((q.set x.1 (byte q 0)).set (x.1 + 1) x.2).set 0 x.1
/-- the heads of free places, written -/
def chainB (q : List Nat) (l : List Pl) : List Nat := l.foldr (fun x q => head1 q x) (q.set 0 0)
theorem chainB_len (q : List Nat) (l : List Pl) : (chainB q l).length = q.length := by
  unfold chainB
  induction l with
  | nil => simp
  | cons x l ih => simp only [List.foldr_cons, head1, List.length_set]; exact ih
def bP (v : Nat) (q : List Nat) : Blk := ⟨v, true, 5, 1, q.map rB⟩
theorem mapSet (q : List Nat) (n m : Nat) : (q.map rB).set n [.int .u8 (m : Int)] = (q.set n m).map rB := by rw [List.map_set]; rfl
theorem rowB (q : List Nat) {n : Nat} (h : n < q.length) : (q.map rB)[n]? = some [.int .u8 (byte q n : Int)] := byteAt q h
theorem wrapU {n : Nat} (h : n < 256) : IntKind.u8.wrap (n : Int) = (n : Int) := by
  simp [IntKind.wrap, IntKind.bits, IntKind.signed]; omega
structure PageAt (H : Heap) (bp v : Nat) (q : List Nat) : Prop where
  at' : H[bp]? = some (bP v q)
  len : q.length = 128
  lt : bp < H.length
section
variable {H : Heap} {bp : Nat}
theorem set_at (hlt : bp < H.length) (B : Blk) (Y : Heap) : (H.set bp B ++ Y)[bp]? = some B := by
  rw [List.getElem?_append_left (by simpa using hlt), List.getElem?_set_self hlt]
theorem set_far (B : Blk) (Y : Heap) (k : Nat) : (H.set bp B ++ Y)[H.length + k]? = Y[k]? := by
  have := at_app (H.set bp B) Y k
  rwa [List.length_set] at this
theorem set_far0 (B : Blk) (Y : Heap) : (H.set bp B ++ Y)[H.length]? = Y[0]? := set_far B Y 0
theorem set_set (hlt : bp < H.length) (B B' : Blk) (Y : Heap) : (H.set bp B ++ Y).set bp B' = H.set bp B' ++ Y := by
  rw [List.set_append_left _ _ (by simpa using hlt), List.set_set]
theorem set_tail (B : Blk) (Y : Heap) (k : Nat) (x : Blk) : (H.set bp B ++ Y).set (H.length + k) x = H.set bp B ++ Y.set k x := by
  have := set_app (H.set bp B) Y k x
  rwa [List.length_set] at this
end
/-- what stays, whatever is written into a block -/
def Beside (H : Heap) (bp sz : Nat) (lv : AV) (rows : List (List AV)) : Prop := ∀ B X, SlAt (H.set bp B ++ X) sz lv rows
theorem l35 (H : Heap) (bp v : Nat) (q : List Nat) (hp : PageAt H bp v q) (lv : AV) (l : List Pl) (hl : Beside H bp 2 lv (l.map rPl)) (hll : l.length < 1000000) (hb : ∀ x ∈ l, x.1 ≤ 126 ∧ x.2 < 256) (hq0 : q.length = 128) (st : St)
    (hE : keepEnv st.1 [0, 1, 4] = [(0, .ref bp v 1 0 128), (1, lv), (4, .int .i64 ((l.length : Int) - 1))]) (hH : st.2 = H.set bp (bP v (q.set 0 0))) (z : Option (CX × St)) (hz : itLim (evCode (evC cprog) itLim c35_l0) st = z) :
    ∃ T X, z = some (.exit 0, T, H.set bp (bP v (chainB q l)) ++ X) := by
  have L := loop_rule (σ := Nat × Heap) (m := [0, 1, 4]) (env := fun i => [(0, .ref bp v 1 0 128), (1, lv), (4, .int .i64 ((i.1 : Int) - 1))]) (hp := fun i => H.set bp (bP v (chainB q (l.drop i.1))) ++ i.2)
    (P := fun i r => ∃ T X, r = (.exit 0, T, H.set bp (bP v (chainB q l)) ++ X))
    (mu := fun i => i.1) (I := fun i => i.1 ≤ l.length) (evCode (evC cprog) itLim c35_l0) ?_ (l.length, []) st (Nat.le_refl _) hE (by rw [hH, List.drop_length, List.append_nil]; rfl) z hz
  · obtain ⟨r, rfl, T, X, rfl⟩ := L
    exact ⟨T, X, rfl⟩
  · intro ⟨k, X⟩ hk E hE
    simp only at hk hE ⊢
    cases k with
    | zero =>
      have h0 : ¬ (0 : Int) ≤ ((0 : Nat) : Int) - 1 := by omega
      simp only [c35_l0, hE, h0, evX, Int.reduceEq, Int.reduceLT, Int.reduceLE, Nat.reduceMul, Nat.reduceMod, evW, fn_eq, evR, Nat.reduceAdd, Nat.reduceLT, Nat.reduceLeDiff, reduceIte, Nat.reduceEqDiff, reduceCtorEq, argEnv, eq_self, if_true, if_false]
      repeat' (first | (rw [guardK_cases]; split <;> simp only [c35_l0, hE, h0, evX, Int.reduceEq, Int.reduceLT, Int.reduceLE, Nat.reduceMul, Nat.reduceMod, evW, evR, Nat.reduceAdd, Nat.reduceLT, Nat.reduceLeDiff, reduceIte, Nat.reduceEqDiff, reduceCtorEq, argEnv, eq_self, if_true, if_false, *]) | (rw [condK_bool]; split <;> simp only [c35_l0, hE, h0, evX, Int.reduceEq, Int.reduceLT, Int.reduceLE, Nat.reduceMul, Nat.reduceMod, evW, evR, Nat.reduceAdd, Nat.reduceLT, Nat.reduceLeDiff, reduceIte, Nat.reduceEqDiff, reduceCtorEq, argEnv, eq_self, if_true, if_false, *]) | (rw [guardD_cases]; split <;> simp only [c35_l0, hE, h0, evX, Int.reduceEq, Int.reduceLT, Int.reduceLE, Nat.reduceMul, Nat.reduceMod, evW, evR, Nat.reduceAdd, Nat.reduceLT, Nat.reduceLeDiff, reduceIte, Nat.reduceEqDiff, reduceCtorEq, argEnv, eq_self, if_true, if_false, *]))
      exact q_exit ⟨_, X, rfl⟩
    | succ k =>
      have hlt : k < l.length := by omega
      obtain ⟨x, hx⟩ : ∃ x, l[k]? = some x := ⟨_, List.getElem?_eq_getElem hlt⟩
      have hd : l.drop k = x :: l.drop (k + 1) := by
        rw [List.drop_eq_getElem_cons hlt]
        rw [List.getElem?_eq_getElem hlt] at hx
        cases hx; rfl
      obtain ⟨hb1, hb2⟩ := hb x (List.mem_of_getElem? hx)
      have e1 : ((k + 1 : Nat) : Int) - 1 = (k : Int) := by omega
      have h0 : (0 : Int) ≤ (k : Int) := by omega
      have hcl := chainB_len q (l.drop (k + 1))
      have hnext : chainB q (l.drop k) = head1 (chainB q (l.drop (k + 1))) x := by rw [hd]; rfl
      generalize chainB q (l.drop (k + 1)) = c at *
      have hSl := hl (bP v c) X
      obtain ⟨_, p, hpp, hat⟩ := hSl.get k (rPl x) (by rw [List.getElem?_map, hx]; rfl)
      have hwk : IntKind.i64.wrap ((k : Int) - 1) = (k : Int) - 1 := wrap_i64 (by omega) (by omega)
      have r0 := rowB c (n := 0) (by omega)
      have r1 := rowB c (n := x.1) (by omega)
      have r2 := rowB (c.set x.1 (byte c 0)) (n := x.1 + 1) (by simp; omega)
      have r3 := rowB ((c.set x.1 (byte c 0)).set (x.1 + 1) x.2) (n := 0) (by simp; omega)
      have hw1 := wrapA1 (a := x.1) (by omega)
      have hu1 := wrapU (n := x.1) (by omega)
      have hu2 := wrapU (n := x.2) (by omega)
      have hx1 : x.1 < 128 := by omega
      have hx2 : x.1 + 1 < 128 := by omega
      have hqa := hat.agg (n := 2) rfl
      rw [e1] at hE
      simp only [bP] at *
      simp only [c35_l0, hE, h0, hpp, hqa, rPl, hp.lt, set_at hp.lt, set_far, set_far0, set_set hp.lt, set_tail, List.length_set, r0, r1, r2, r3, mapSet, hw1, hu1, hu2, hx1, hx2, hwk, evX, Int.reduceEq, Int.reduceLT, Int.reduceLE, Nat.reduceMul, Nat.reduceMod, evW, fn_eq, evR, Nat.reduceAdd, Nat.reduceLT, Nat.reduceLeDiff, reduceIte, Nat.reduceEqDiff, reduceCtorEq, argEnv, eq_self, if_true, if_false]
      repeat' (first | (rw [guardK_cases]; split <;> simp only [c35_l0, hE, h0, hpp, hqa, rPl, hp.lt, set_at hp.lt, set_far, set_far0, set_set hp.lt, set_tail, List.length_set, r0, r1, r2, r3, mapSet, hw1, hu1, hu2, hx1, hx2, hwk, evX, Int.reduceEq, Int.reduceLT, Int.reduceLE, Nat.reduceMul, Nat.reduceMod, evW, evR, Nat.reduceAdd, Nat.reduceLT, Nat.reduceLeDiff, reduceIte, Nat.reduceEqDiff, reduceCtorEq, argEnv, eq_self, if_true, if_false, *]) | (rw [condK_bool]; split <;> simp only [c35_l0, hE, h0, hpp, hqa, rPl, hp.lt, set_at hp.lt, set_far, set_far0, set_set hp.lt, set_tail, List.length_set, r0, r1, r2, r3, mapSet, hw1, hu1, hu2, hx1, hx2, hwk, evX, Int.reduceEq, Int.reduceLT, Int.reduceLE, Nat.reduceMul, Nat.reduceMod, evW, evR, Nat.reduceAdd, Nat.reduceLT, Nat.reduceLeDiff, reduceIte, Nat.reduceEqDiff, reduceCtorEq, argEnv, eq_self, if_true, if_false, *]) | (rw [guardD_cases]; split <;> simp only [c35_l0, hE, h0, hpp, hqa, rPl, hp.lt, set_at hp.lt, set_far, set_far0, set_set hp.lt, set_tail, List.length_set, r0, r1, r2, r3, mapSet, hw1, hu1, hu2, hx1, hx2, hwk, evX, Int.reduceEq, Int.reduceLT, Int.reduceLE, Nat.reduceMul, Nat.reduceMod, evW, evR, Nat.reduceAdd, Nat.reduceLT, Nat.reduceLeDiff, reduceIte, Nat.reduceEqDiff, reduceCtorEq, argEnv, eq_self, if_true, if_false, *]))
      exact q_next (k, X ++ [⟨0, true, 55, 2, [[.int .i64 (x.1 : Int), .int .i64 (x.2 : Int)]]⟩]) (by rfl) (by simp only [hnext, head1]) (by omega) (by simp only; omega) (fun r h => h)
theorem f35 (H : Heap) (bp v : Nat) (q : List Nat) (hp : PageAt H bp v q) (lv : AV) (l : List Pl) (hl : Beside H bp 2 lv (l.map rPl)) (hlen : lenK false (some lv) = some (.int .i64 (l.length : Int))) (hll : l.length < 1000000) (hb : ∀ x ∈ l, x.1 ≤ 126 ∧ x.2 < 256) :
    ∃ X, cal (evC cprog) false 35 [.ref bp v 1 0 128, lv] H = some (.tup [], H.set bp (bP v (chainB q l)) ++ X) := by
  have r0 := rowB q (n := 0) (by have := hp.len; omega)
  have hat : ∀ X, (H ++ X)[bp]? = some (bP v q) := fun X => by rw [List.getElem?_append_left hp.lt]; exact hp.at'
  have hat0 : H[bp]? = some (bP v q) := hp.at'
  have hwk : IntKind.i64.wrap ((l.length : Int) - 1) = (l.length : Int) - 1 := wrap_i64 (by omega) (by omega)
  have hlp := l35 H bp v q hp lv l hl hll hb hp.len
  rw [cal_of at35]
  suffices h : ∃ X, evFn (evC cprog) itLim c35 [.ref bp v 1 0 128, lv] H = some (.tup [], H.set bp (bP v (chainB q l)) ++ X) by
    obtain ⟨X, h⟩ := h
    rw [h, calK_f]
    rcases gc_or H (.tup []) (H.set bp (bP v (chainB q l)) ++ X) with h | ⟨h, ht⟩
    · exact ⟨X, by rw [h]⟩
    · refine ⟨[], ?_⟩
      rw [h, List.append_nil]
      rw [List.take_append_of_le_length (by simp), List.take_of_length_le (by simp)] at ht
      rw [ht]
  have hm0 : (q.map rB).set 0 [.int .u8 0] = (q.set 0 0).map rB := mapSet q 0 0
  simp only [bP] at *
  simp only [c35, hat0, hlen, r0, hm0, hwk, evX, Int.reduceEq, Int.reduceLT, Int.reduceLE, Nat.reduceMul, Nat.reduceMod, evW, fn_eq, evR, Nat.reduceAdd, Nat.reduceLT, Nat.reduceLeDiff, reduceIte, Nat.reduceEqDiff, reduceCtorEq, argEnv, eq_self, if_true, if_false]
  repeat' (first | (rw [guardK_cases]; split <;> simp only [c35, hat0, hlen, r0, hm0, hwk, evX, Int.reduceEq, Int.reduceLT, Int.reduceLE, Nat.reduceMul, Nat.reduceMod, evW, evR, Nat.reduceAdd, Nat.reduceLT, Nat.reduceLeDiff, reduceIte, Nat.reduceEqDiff, reduceCtorEq, argEnv, eq_self, if_true, if_false, *]) | (rw [condK_bool]; split <;> simp only [c35, hat0, hlen, r0, hm0, hwk, evX, Int.reduceEq, Int.reduceLT, Int.reduceLE, Nat.reduceMul, Nat.reduceMod, evW, evR, Nat.reduceAdd, Nat.reduceLT, Nat.reduceLeDiff, reduceIte, Nat.reduceEqDiff, reduceCtorEq, argEnv, eq_self, if_true, if_false, *]) | (rw [guardD_cases]; split <;> simp only [c35, hat0, hlen, r0, hm0, hwk, evX, Int.reduceEq, Int.reduceLT, Int.reduceLE, Nat.reduceMul, Nat.reduceMod, evW, evR, Nat.reduceAdd, Nat.reduceLT, Nat.reduceLeDiff, reduceIte, Nat.reduceEqDiff, reduceCtorEq, argEnv, eq_self, if_true, if_false, *]))
  generalize hz : itLim _ _ = z
  obtain ⟨T, X, rfl⟩ := hlp _ (by rfl) (by rfl) z hz
  simp only [evX, Int.reduceEq, Int.reduceLT, Int.reduceLE, Nat.reduceMul, Nat.reduceMod, evW, fn_eq, evR, Nat.reduceAdd, Nat.reduceLT, Nat.reduceLeDiff, reduceIte, Nat.reduceEqDiff, reduceCtorEq, argEnv, eq_self, if_true, if_false]
  repeat' (first | (rw [guardK_cases]; split <;> simp only [evX, Int.reduceEq, Int.reduceLT, Int.reduceLE, Nat.reduceMul, Nat.reduceMod, evW, evR, Nat.reduceAdd, Nat.reduceLT, Nat.reduceLeDiff, reduceIte, Nat.reduceEqDiff, reduceCtorEq, argEnv, eq_self, if_true, if_false, *]) | (rw [condK_bool]; split <;> simp only [evX, Int.reduceEq, Int.reduceLT, Int.reduceLE, Nat.reduceMul, Nat.reduceMod, evW, evR, Nat.reduceAdd, Nat.reduceLT, Nat.reduceLeDiff, reduceIte, Nat.reduceEqDiff, reduceCtorEq, argEnv, eq_self, if_true, if_false, *]) | (rw [guardD_cases]; split <;> simp only [evX, Int.reduceEq, Int.reduceLT, Int.reduceLE, Nat.reduceMul, Nat.reduceMod, evW, evR, Nat.reduceAdd, Nat.reduceLT, Nat.reduceLeDiff, reduceIte, Nat.reduceEqDiff, reduceCtorEq, argEnv, eq_self, if_true, if_false, *]))
  exact ⟨X, rfl⟩
end Go.Proofs.Ythgcnlmmgilhjaa.Code
