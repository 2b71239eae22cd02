/- page: the empty page; Awake; the law PagePlaces. -/
import Derived.Test.YthgcnlmmgilhjaaPe
import Derived.Test.YthgcnlmmgilhjaaEvR
set_option linter.unusedSimpArgs false
set_option linter.unusedVariables false
namespace Go.Proofs.Ythgcnlmmgilhjaa.Code
open Go.Proofs.Ythgcnlmmgilhjaa.Ev

theorem awake_run : evCall cprog 400 8 [] [] = some (.bool true, []) := by kernel_rfl
theorem closed_any {call it} {c : CFn} {b : Bool} (hc : c.closed = true) (h : evFn call it c [] [] = some (.bool b, [])) (H : Heap) : evFn call it c [] H = some (.bool b, H) := by
  unfold evFn at h ⊢
  rw [if_pos hc] at h ⊢
  simp only at h ⊢
  split at h
  · cases h; rfl
  · cases h
theorem f8 (H : Heap) : cal (evC cprog) false 8 [] H = some (.bool true, H) := by
  have h := evC_of awake_run
  rw [evC_fn at8] at h
  rw [cal_of at8, closed_any rfl h H, calK_f, gc_same]
/-- the page with one free place -/
def fmt0 : List Nat := (List.replicate 128 0).set 1 83
def fmt : List Nat := ((fmt0.set 0 2).set 2 0).set 3 126
theorem mks128 (H : Heap) : mksK 5 1 1 [.int .u8 0] H (some (.int .i64 128)) (some (.int .i64 128)) = some (.ref H.length 0 1 0 128, H ++ [⟨0, true, 5, 1, (List.replicate 128 0).map rB⟩]) := by
  have h : asNat (.int .i64 128) = some 128 := rfl
  simp only [mksK, h]
  rw [if_pos (by decide), List.map_replicate]
  rfl
theorem fz_page {H X : Heap} {v : Nat} (q : List Nat) (hq : q.length = 128) : calK true H (some (.ref H.length v 1 0 128, H ++ (bP v q :: X))) = some (eB q, H) := by
  have hO : Out H.length 1 5 (bP v q :: X) (.ref H.length v 1 0 128) (q.map rB) := .inr ⟨by intro h; rw [List.map_eq_nil_iff] at h; rw [h] at hq; simp at hq, 0, v, by simp [hq], rfl⟩
  obtain ⟨ids, h1, h2⟩ := fz_out hO H rfl (fun r hr a ha => by
    obtain ⟨n, _, rfl⟩ := List.mem_map.1 hr
    simp [rB] at ha
    subst ha
    exact ⟨rfl, fun m H => rfl⟩) 6
  exact calK_frz (ids := ids) h1 rfl (by simp) h2
theorem f21 (H : Heap) : cal (evC cprog) true 21 [] H = some (eB fmt, H) := by
  have r0 := rowB (List.replicate 128 0) (n := 0) (by simp)
  have r1 := rowB ((List.replicate 128 0).set 0 2) (n := 1) (by simp)
  have r3 := rowB (((List.replicate 128 0).set 0 2).set 1 83) (n := 3) (by simp)
  have m0 : ((List.replicate 128 0).map rB).set 0 [.int .u8 2] = ((List.replicate 128 0).set 0 2).map rB := mapSet _ 0 2
  have m1 : (((List.replicate 128 0).set 0 2).map rB).set 1 [.int .u8 83] = (((List.replicate 128 0).set 0 2).set 1 83).map rB := mapSet _ 1 83
  have m3 : ((((List.replicate 128 0).set 0 2).set 1 83).map rB).set 3 [.int .u8 126] = ((((List.replicate 128 0).set 0 2).set 1 83).set 3 126).map rB := mapSet _ 3 126
  have hfin : (((List.replicate 128 0).set 0 2).set 1 83).set 3 126 = fmt := by decide +kernel
  rw [cal_of at21]
  simp only [c21, mks128, r0, r1, r3, m0, m1, m3, evX, Int.reduceEq, Int.reduceLT, Int.reduceLE, Nat.reduceMul, Nat.reduceMod, evW, fn_eq, evR, Nat.reduceAdd, Nat.reduceLT, Nat.reduceLeDiff, reduceIte, Nat.reduceEqDiff, reduceCtorEq, argEnv, eq_self, if_true, if_false]
  repeat' (first | (rw [guardK_cases]; split <;> simp only [c21, mks128, r0, r1, r3, m0, m1, m3, evX, Int.reduceEq, Int.reduceLT, Int.reduceLE, Nat.reduceMul, Nat.reduceMod, evW, evR, Nat.reduceAdd, Nat.reduceLT, Nat.reduceLeDiff, reduceIte, Nat.reduceEqDiff, reduceCtorEq, argEnv, eq_self, if_true, if_false, *]) | (rw [condK_bool]; split <;> simp only [c21, mks128, r0, r1, r3, m0, m1, m3, evX, Int.reduceEq, Int.reduceLT, Int.reduceLE, Nat.reduceMul, Nat.reduceMod, evW, evR, Nat.reduceAdd, Nat.reduceLT, Nat.reduceLeDiff, reduceIte, Nat.reduceEqDiff, reduceCtorEq, argEnv, eq_self, if_true, if_false, *]) | (rw [guardD_cases]; split <;> simp only [c21, mks128, r0, r1, r3, m0, m1, m3, evX, Int.reduceEq, Int.reduceLT, Int.reduceLE, Nat.reduceMul, Nat.reduceMod, evW, evR, Nat.reduceAdd, Nat.reduceLT, Nat.reduceLeDiff, reduceIte, Nat.reduceEqDiff, reduceCtorEq, argEnv, eq_self, if_true, if_false, *]))
  rw [hfin]
  exact fz_page (v := 0) (X := []) fmt (by decide +kernel)
theorem f20 (H : Heap) : cal (evC cprog) true 20 [] H = some (eB fmt, H) := by
  have r1 := rowB (List.replicate 128 0) (n := 1) (by simp)
  have m1 : ((List.replicate 128 0).map rB).set 1 [.int .u8 83] = fmt0.map rB := mapSet _ 1 83
  obtain ⟨X, h35⟩ := f35 (H ++ [bP 0 fmt0, ⟨0, true, 55, 2, [[.int .i64 2, .int .i64 126]]⟩]) H.length 0 fmt0 ⟨by simp, by decide +kernel, by simp⟩ (.ref (H.length + 1) 0 2 0 1) [(2, 126)] (fun B X => by
      refine .ref (k := ⟨0, true, 55, 2, [[.int .i64 2, .int .i64 126]]⟩) (rows := [[.int .i64 2, .int .i64 126]]) ?_ fun i row hi => ?_
      · have : (H ++ [bP 0 fmt0, ⟨0, true, 55, 2, [[.int .i64 2, .int .i64 126]]⟩]).set H.length B = H ++ [B, ⟨0, true, 55, 2, [[.int .i64 2, .int .i64 126]]⟩] := by simp
        rw [this]
        simp [curBlk]
      · rw [Nat.zero_add]
        refine ⟨?_, hi⟩
        have := List.mem_of_getElem? hi
        simp at this
        rw [this]; rfl) rfl (by simp) (by simp)
  have hc : chainB fmt0 [(2, 126)] = fmt := by decide +kernel
  have hset : (H ++ [bP 0 fmt0, ⟨0, true, 55, 2, [[.int .i64 2, .int .i64 126]]⟩]).set H.length (bP 0 (chainB fmt0 [(2, 126)])) ++ X = H ++ (bP 0 fmt :: ⟨0, true, 55, 2, [[.int .i64 2, .int .i64 126]]⟩ :: X) := by rw [hc]; simp
  rw [hset] at h35
  rw [cal_of at20]
  simp only [bP] at h35
  simp only [c20, mks128, r1, m1, h35, evX, Int.reduceEq, Int.reduceLT, Int.reduceLE, Nat.reduceMul, Nat.reduceMod, evW, fn_eq, evR, Nat.reduceAdd, Nat.reduceLT, Nat.reduceLeDiff, reduceIte, Nat.reduceEqDiff, reduceCtorEq, argEnv, eq_self, if_true, if_false]
  repeat' (first | (rw [guardK_cases]; split <;> simp only [c20, mks128, r1, m1, h35, evX, Int.reduceEq, Int.reduceLT, Int.reduceLE, Nat.reduceMul, Nat.reduceMod, evW, evR, Nat.reduceAdd, Nat.reduceLT, Nat.reduceLeDiff, reduceIte, Nat.reduceEqDiff, reduceCtorEq, argEnv, eq_self, if_true, if_false, *]) | (rw [condK_bool]; split <;> simp only [c20, mks128, r1, m1, h35, evX, Int.reduceEq, Int.reduceLT, Int.reduceLE, Nat.reduceMul, Nat.reduceMod, evW, evR, Nat.reduceAdd, Nat.reduceLT, Nat.reduceLeDiff, reduceIte, Nat.reduceEqDiff, reduceCtorEq, argEnv, eq_self, if_true, if_false, *]) | (rw [guardD_cases]; split <;> simp only [c20, mks128, r1, m1, h35, evX, Int.reduceEq, Int.reduceLT, Int.reduceLE, Nat.reduceMul, Nat.reduceMod, evW, evR, Nat.reduceAdd, Nat.reduceLT, Nat.reduceLeDiff, reduceIte, Nat.reduceEqDiff, reduceCtorEq, argEnv, eq_self, if_true, if_false, *]))
  exact fz_page (v := 0) fmt (by decide +kernel)
def strB (p : List Nat) : ByteArray := ⟨(p.map UInt8.ofNat).toArray⟩
theorem rowBytes_B : ∀ p : List Nat, rowBytes (p.map rB) = some (p.map UInt8.ofNat)
  | [] => rfl
  | n :: p => by simp [rowBytes, rB, rowBytes_B p]
theorem b2s_B (H : Heap) (p : List Nat) : b2sK H (some (eB p)) = some (.str (strB p)) := by
  simp only [b2sK, eB, rowsOf, rowBytes_B]; rfl
theorem f3 (p : List Nat) (hp : Page p) (H : Heap) : ∃ H', evFn (evC cprog) itLim c3 [eB p] H = some (.bool true, H') := by
  have h4 := (sB H p).len
  simp only [List.length_map] at h4
  have h9 := fun H => f9 p hp H
  have h10 := fun H => f10 p hp H
  have h11 := fun H => f11 p hp H
  have h12 := fun H => f12 p hp H
  have h13 := fun H => f13 p hp H
  have h14 := fun H => f14 p hp H
  have h15 := fun H => f15 (placesAns p).1 (by have := places_len p; omega) H
  have h16 := fun H => f16 p hp H
  have h17 := fun H => f17 p hp H
  have h18 := fun H => f18 p hp H
  have h19 := fun H => f19 p hp H
  have hbb : ∀ b : Bool, (b == b) = true := fun b => by cases b <;> rfl
  have hnt : ∀ l, (ePl l).isTup = false := fun _ => rfl
  simp only [c3, h4, f8, h9, h10, h11, h12, h13, h14, h15, h16, h17, h18, h19, f20, f21, b2s_B, hbb, hnt, beq_self_eq_true, evX, Int.reduceEq, Int.reduceLT, Int.reduceLE, Nat.reduceMul, Nat.reduceMod, evW, fn_eq, evR, Nat.reduceAdd, Nat.reduceLT, Nat.reduceLeDiff, reduceIte, Nat.reduceEqDiff, reduceCtorEq, argEnv, eq_self, if_true, if_false]
  repeat' (first | (rw [guardK_cases]; split <;> simp only [c3, h4, f8, h9, h10, h11, h12, h13, h14, h15, h16, h17, h18, h19, f20, f21, b2s_B, hbb, hnt, beq_self_eq_true, evX, Int.reduceEq, Int.reduceLT, Int.reduceLE, Nat.reduceMul, Nat.reduceMod, evW, evR, Nat.reduceAdd, Nat.reduceLT, Nat.reduceLeDiff, reduceIte, Nat.reduceEqDiff, reduceCtorEq, argEnv, eq_self, if_true, if_false, *]) | (rw [condK_bool]; split <;> simp only [c3, h4, f8, h9, h10, h11, h12, h13, h14, h15, h16, h17, h18, h19, f20, f21, b2s_B, hbb, hnt, beq_self_eq_true, evX, Int.reduceEq, Int.reduceLT, Int.reduceLE, Nat.reduceMul, Nat.reduceMod, evW, evR, Nat.reduceAdd, Nat.reduceLT, Nat.reduceLeDiff, reduceIte, Nat.reduceEqDiff, reduceCtorEq, argEnv, eq_self, if_true, if_false, *]) | (rw [guardD_cases]; split <;> simp only [c3, h4, f8, h9, h10, h11, h12, h13, h14, h15, h16, h17, h18, h19, f20, f21, b2s_B, hbb, hnt, beq_self_eq_true, evX, Int.reduceEq, Int.reduceLT, Int.reduceLE, Nat.reduceMul, Nat.reduceMod, evW, evR, Nat.reduceAdd, Nat.reduceLT, Nat.reduceLeDiff, reduceIte, Nat.reduceEqDiff, reduceCtorEq, argEnv, eq_self, if_true, if_false, *]))
  all_goals exact ⟨_, rfl⟩
end Go.Proofs.Ythgcnlmmgilhjaa.Code
namespace Go.Proofs.Ythgcnlmmgilhjaa.Pure
open Go.Proofs.Ythgcnlmmgilhjaa.Ev Go.Proofs.Ythgcnlmmgilhjaa.Code Go.RowKit
theorem typed {α : Type} {P : List AV → Prop} {enc : α → List AV} {Q : α → Prop} (h : ∀ r, P r → ∃ x, r = enc x ∧ Q x) : ∀ l : List (List AV), (∀ r ∈ l, P r) → ∃ xs : List α, l = xs.map enc ∧ ∀ x ∈ xs, Q x
  | [], _ => ⟨[], rfl, by simp⟩
  | r :: l, hl => by
    obtain ⟨x, rfl, hx⟩ := h r (hl r (List.mem_cons_self ..))
    obtain ⟨xs, rfl, hxs⟩ := typed h l fun r hr => hl r (List.mem_cons_of_mem _ hr)
    exact ⟨x :: xs, rfl, fun y hy => by (rcases List.mem_cons.1 hy with rfl | hy; exact hx; exact hxs y hy)⟩
theorem open_byte {r : List AV} (h : HasL [.int .u8] r) : ∃ n : Nat, r = rB n ∧ n < 256 := by
  simp only [HasL, Has] at h
  obtain ⟨x, xs, rfl, ⟨n, rfl, hn⟩, rfl⟩ := h
  have : 0 ≤ n ∧ n < 256 := by
    have e1 : IntKind.u8.min = 0 := rfl
    have e2 : IntKind.u8.max = 255 := rfl
    simp [Lit.wf, e1, e2] at hn
    omega
  exact ⟨n.toNat, by simp only [rB]; rw [Int.toNat_of_nonneg this.1], by omega⟩
theorem open_page {a : AV} (h : ArgTy false [.sl [.int .u8]] a) : ∃ p : List Nat, a = eB p ∧ Page p := by
  have h : HasL [.sl [.int .u8]] [a] := h
  simp only [HasL.eq_2, HasL.eq_1, Has] at h
  obtain ⟨x, xs, he, ⟨l, rfl, hl, hr⟩, rfl⟩ := h
  cases he
  obtain ⟨p, rfl, hp⟩ := typed (P := HasL [.int .u8]) (fun r h => open_byte h) l (fun r h => by simpa only [HasL.eq_2, HasL.eq_1, Has] using hr r h)
  unfold reachBytes at hl
  exact ⟨p, rfl, ⟨by simp at hl; omega, hp⟩⟩
theorem PagePlaces (a0 : AV) (t0 : ArgTy false [.sl [.int .u8]] a0) : ∃ H', evC cprog 3 [a0] [] = some (.bool true, H') := by
  obtain ⟨p, rfl, hp⟩ := open_page t0
  rw [evC_fn at3]
  exact f3 p hp []
end Go.Proofs.Ythgcnlmmgilhjaa.Pure
