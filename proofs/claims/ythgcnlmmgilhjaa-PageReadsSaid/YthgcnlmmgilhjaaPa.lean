/- page: the free places of a page, as the program and as the document read them. -/
import Derived.Test.YthgcnlmmgilhjaaCode
import Derived.Test.YthgcnlmmgilhjaaEvX
set_option linter.unusedSimpArgs false
set_option linter.unusedVariables false
namespace Go.Proofs.Ythgcnlmmgilhjaa.Code
open Go.Proofs.Ythgcnlmmgilhjaa.Ev

def rB (n : Nat) : List AV := [.int .u8 (n : Int)]
def eB (p : List Nat) : AV := .lst (p.map rB)
abbrev Pl := Nat × Nat
def rPl (x : Pl) : List AV := [.int .i64 (x.1 : Int), .int .i64 (x.2 : Int)]
def ePl (l : List Pl) : AV := .lst (l.map rPl)
def byte (p : List Nat) (i : Nat) : Nat := (p[i]?).getD 0
/-- the free places from an offset on, where the next one must not stand ahead of another offset -/
def pl (p : List Nat) (at' least : Nat) : Option (List Pl) :=
  if at' = 0 then some []
  else if h : at' < least ∨ at' % 2 = 1 ∨ 126 < at' then none
  else if byte p (at' + 1) < 2 ∨ byte p (at' + 1) % 2 = 1 ∨ 128 < at' + byte p (at' + 1) then none
  else (pl p (byte p at') (at' + byte p (at' + 1) + 1)).map fun l => (at', byte p (at' + 1)) :: l
termination_by 130 - least
decreasing_by omega
theorem pl_zero (p : List Nat) (least : Nat) : pl p 0 least = some [] := by rw [pl, if_pos rfl]
theorem pl_bad (p : List Nat) {a least : Nat} (h0 : a ≠ 0) (h : a < least ∨ a % 2 = 1 ∨ 126 < a) : pl p a least = none := by rw [pl, if_neg h0, dif_pos h]
theorem pl_bad' (p : List Nat) {a least : Nat} (h0 : a ≠ 0) (h : byte p (a + 1) < 2 ∨ byte p (a + 1) % 2 = 1 ∨ 128 < a + byte p (a + 1)) : pl p a least = none := by
  rw [pl, if_neg h0]
  split <;> first | rfl | rw [if_pos h]
theorem pl_next (p : List Nat) {a least : Nat} (h0 : a ≠ 0) (h : ¬ (a < least ∨ a % 2 = 1 ∨ 126 < a)) (h' : ¬ (byte p (a + 1) < 2 ∨ byte p (a + 1) % 2 = 1 ∨ 128 < a + byte p (a + 1))) :
    pl p a least = (pl p (byte p a) (a + byte p (a + 1) + 1)).map fun l => (a, byte p (a + 1)) :: l := by
  conv => lhs; rw [pl]
  rw [if_neg h0, dif_neg h, if_neg h']
def leastOf (out : List Pl) : Nat := match out.getLast? with
  | some x => x.1 + x.2 + 1
  | none => 2
/-- the free places of a page; none: it is no page of places -/
def plOf (p : List Nat) : Option (List Pl) := if p.length = 128 ∧ byte p 1 = 83 then pl p (byte p 0) 2 else none
structure Page (p : List Nat) : Prop where
  len : p.length < 9223372036854775807
  small : ∀ n ∈ p, n < 256
theorem Page.byte {p : List Nat} (h : Page p) (i : Nat) : byte p i < 256 := by
  unfold Code.byte
  cases hi : p[i]? with
  | none => decide
  | some n => exact h.small n (List.mem_of_getElem? hi)
theorem sB (H : Heap) (p : List Nat) : SlAt H 1 (eB p) (p.map rB) := .lst fun r hr => by obtain ⟨n, _, rfl⟩ := List.mem_map.1 hr; rfl
theorem sPl (H : Heap) (l : List Pl) : SlAt H 2 (ePl l) (l.map rPl) := .lst fun r hr => by obtain ⟨n, _, rfl⟩ := List.mem_map.1 hr; rfl
/-- a byte of a page, as it is read -/
theorem getB (H : Heap) (p : List Nat) {i : Nat} (hi : i < p.length) : ∃ q, iaddrK 1 (some (eB p)) (some (.int .i64 (i : Int))) = some q ∧ PtrAt H q (rB (byte p i)) := by
  obtain ⟨_, q, h1, h2⟩ := (sB H p).get i (rB (byte p i)) (by rw [List.getElem?_map]; unfold byte; rw [List.getElem?_eq_getElem hi]; rfl)
  exact ⟨q, h1, h2⟩
theorem tm2 (a : Nat) : (a : Int).tmod 2 = ((a % 2 : Nat) : Int) := rfl
theorem wrapN (a : Nat) (h : a < 1000000) : IntKind.i64.wrap (a : Int) = (a : Int) := wrap_i64 (by omega) (by omega)
theorem wrapA {a b : Nat} (ha : a < 1000000) (hb : b < 1000000) : IntKind.i64.wrap ((a : Int) + (b : Int)) = ((a + b : Nat) : Int) := by
  rw [wrap_i64 (by omega) (by omega)]; omega
theorem wrapA1 {a : Nat} (ha : a < 1000000) : IntKind.i64.wrap ((a : Int) + 1) = ((a + 1 : Nat) : Int) := by
  rw [wrap_i64 (by omega) (by omega)]; omega
theorem wrapA2 {a : Nat} (ha : a < 1000000) : IntKind.i64.wrap ((a : Int) + 2) = ((a + 2 : Nat) : Int) := by
  rw [wrap_i64 (by omega) (by omega)]; omega
theorem f47 (x : Pl) (h1 : x.1 < 1000000) (h2 : x.2 < 1000000) (H : Heap) : cal (evC cprog) false 47 [.agg (rPl x)] H = some (.int .i64 ((x.1 + x.2 : Nat) : Int), H) := by
  rw [cal_of at47]
  simp only [c47, rPl, wrapA h1 h2, evX, Int.reduceEq, Int.reduceLT, Int.reduceLE, Nat.reduceMul, Nat.reduceMod, evW, fn_eq, evR, Nat.reduceAdd, Nat.reduceLT, Nat.reduceLeDiff, reduceIte, Nat.reduceEqDiff, reduceCtorEq, argEnv, eq_self, if_true, if_false]
  repeat' (first | (rw [guardK_cases]; split <;> simp only [c47, rPl, wrapA h1 h2, evX, Int.reduceEq, Int.reduceLT, Int.reduceLE, Nat.reduceMul, Nat.reduceMod, evW, evR, Nat.reduceAdd, Nat.reduceLT, Nat.reduceLeDiff, reduceIte, Nat.reduceEqDiff, reduceCtorEq, argEnv, eq_self, if_true, if_false, *]) | (rw [condK_bool]; split <;> simp only [c47, rPl, wrapA h1 h2, evX, Int.reduceEq, Int.reduceLT, Int.reduceLE, Nat.reduceMul, Nat.reduceMod, evW, evR, Nat.reduceAdd, Nat.reduceLT, Nat.reduceLeDiff, reduceIte, Nat.reduceEqDiff, reduceCtorEq, argEnv, eq_self, if_true, if_false, *]) | (rw [guardD_cases]; split <;> simp only [c47, rPl, wrapA h1 h2, evX, Int.reduceEq, Int.reduceLT, Int.reduceLE, Nat.reduceMul, Nat.reduceMod, evW, evR, Nat.reduceAdd, Nat.reduceLT, Nat.reduceLeDiff, reduceIte, Nat.reduceEqDiff, reduceCtorEq, argEnv, eq_self, if_true, if_false, *]))
theorem pl_bound {out : List Pl} (h : ∀ x ∈ out, x.1 < 128 ∧ x.2 < 256) : leastOf out < 1000 := by
  unfold leastOf
  cases hl : out.getLast? with
  | none => decide
  | some x => have := h x (List.mem_of_getLast? hl); simp only; omega
theorem l33 (p : List Nat) (hp : Page p) (h128 : p.length = 128) (H : Heap) (a : Nat) (ha : a < 256) (st : St)
    (hE : keepEnv st.1 [0, 4, 5, 6] = [(0, eB p), (4, .nils), (5, .int .i64 2), (6, .int .i64 (a : Int))]) (hH : st.2 = H) (z : Option (CX × St)) (hz : itLim (evCode (evC cprog) itLim c33_l0) st = z) :
    ∃ T X, (match pl p a 2 with
      | some l => z = some (.exit 0, T, H ++ X) ∧ ∃ rv, get T 4 = some rv ∧ Out H.length 2 35 X rv (l.map rPl)
      | none => z = some (.ret, T, H ++ X) ∧ get T 2 = some .nils ∧ get T 3 = some (.bool false)) := by
  have L := loop_rule (σ := List Pl × Nat × Heap × AV) (m := [0, 4, 5, 6]) (env := fun i => [(0, eB p), (4, i.2.2.2), (5, .int .i64 (leastOf i.1 : Int)), (6, .int .i64 (i.2.1 : Int))]) (hp := fun i => H ++ i.2.2.1)
    (P := fun i r => ∃ T X, (match pl p i.2.1 (leastOf i.1) with
      | some l => r = (.exit 0, T, H ++ X) ∧ ∃ rv, get T 4 = some rv ∧ Out H.length 2 35 X rv ((i.1 ++ l).map rPl)
      | none => r = (.ret, T, H ++ X) ∧ get T 2 = some .nils ∧ get T 3 = some (.bool false)))
    (mu := fun i => 1000 - leastOf i.1) (I := fun i => i.2.1 < 256 ∧ i.1.length ≤ 1000 ∧ (∀ x ∈ i.1, x.1 < 128 ∧ x.2 < 256) ∧ Out H.length 2 35 i.2.2.1 i.2.2.2 (i.1.map rPl) ∧ i.1.length ≤ leastOf i.1) (evCode (evC cprog) itLim c33_l0) ?_ ([], a, [], .nils) st ⟨ha, by simp, by simp, .nils .., by simp⟩ hE (by simpa using hH) z hz
  · obtain ⟨r, rfl, T, X, h⟩ := L
    refine ⟨T, X, ?_⟩
    simp only [leastOf, List.getLast?_nil, List.nil_append] at h
    split at h
    · exact ⟨by rw [h.1], h.2⟩
    · exact ⟨by rw [h.1], h.2⟩
  · intro ⟨out, a, X, rv⟩ ⟨ha, hol, hob, hO, hlo⟩ E hE
    simp only at ha hol hob hO hlo hE ⊢
    have hlb := pl_bound hob
    by_cases h0 : a = 0
    · subst h0
      have z0 : decide (((0 : Nat) : Int) = 0) = true := rfl
      simp only [c33_l0, hE, z0, evX, Int.reduceEq, Int.reduceLT, Int.reduceLE, Nat.reduceMul, Nat.reduceMod, evW, fn_eq, evR, Nat.reduceAdd, Nat.reduceLT, Nat.reduceLeDiff, reduceIte, Nat.reduceEqDiff, reduceCtorEq, argEnv, eq_self, if_true, if_false]
      repeat' (first | (rw [guardK_cases]; split <;> simp only [c33_l0, hE, z0, evX, Int.reduceEq, Int.reduceLT, Int.reduceLE, Nat.reduceMul, Nat.reduceMod, evW, evR, Nat.reduceAdd, Nat.reduceLT, Nat.reduceLeDiff, reduceIte, Nat.reduceEqDiff, reduceCtorEq, argEnv, eq_self, if_true, if_false, *]) | (rw [condK_bool]; split <;> simp only [c33_l0, hE, z0, evX, Int.reduceEq, Int.reduceLT, Int.reduceLE, Nat.reduceMul, Nat.reduceMod, evW, evR, Nat.reduceAdd, Nat.reduceLT, Nat.reduceLeDiff, reduceIte, Nat.reduceEqDiff, reduceCtorEq, argEnv, eq_self, if_true, if_false, *]) | (rw [guardD_cases]; split <;> simp only [c33_l0, hE, z0, evX, Int.reduceEq, Int.reduceLT, Int.reduceLE, Nat.reduceMul, Nat.reduceMod, evW, evR, Nat.reduceAdd, Nat.reduceLT, Nat.reduceLeDiff, reduceIte, Nat.reduceEqDiff, reduceCtorEq, argEnv, eq_self, if_true, if_false, *]))
      refine q_exit ?_
      simp only [pl_zero]
      exact ⟨_, X, rfl, rv, by rfl, by simpa using hO⟩
    have h0' : ¬ ((a : Int) = 0) := by omega
    have hw2 := wrapA2 (a := a) (by omega)
    by_cases c1 : a < leastOf out
    · have hpl := pl_bad p h0 (.inl c1)
      have hb1 : (a : Int) < (leastOf out : Int) := by omega
      simp only [c33_l0, hE, h0', hb1, evX, Int.reduceEq, Int.reduceLT, Int.reduceLE, Nat.reduceMul, Nat.reduceMod, evW, fn_eq, evR, Nat.reduceAdd, Nat.reduceLT, Nat.reduceLeDiff, reduceIte, Nat.reduceEqDiff, reduceCtorEq, argEnv, eq_self, if_true, if_false]
      repeat' (first | (rw [guardK_cases]; split <;> simp only [c33_l0, hE, h0', hb1, evX, Int.reduceEq, Int.reduceLT, Int.reduceLE, Nat.reduceMul, Nat.reduceMod, evW, evR, Nat.reduceAdd, Nat.reduceLT, Nat.reduceLeDiff, reduceIte, Nat.reduceEqDiff, reduceCtorEq, argEnv, eq_self, if_true, if_false, *]) | (rw [condK_bool]; split <;> simp only [c33_l0, hE, h0', hb1, evX, Int.reduceEq, Int.reduceLT, Int.reduceLE, Nat.reduceMul, Nat.reduceMod, evW, evR, Nat.reduceAdd, Nat.reduceLT, Nat.reduceLeDiff, reduceIte, Nat.reduceEqDiff, reduceCtorEq, argEnv, eq_self, if_true, if_false, *]) | (rw [guardD_cases]; split <;> simp only [c33_l0, hE, h0', hb1, evX, Int.reduceEq, Int.reduceLT, Int.reduceLE, Nat.reduceMul, Nat.reduceMod, evW, evR, Nat.reduceAdd, Nat.reduceLT, Nat.reduceLeDiff, reduceIte, Nat.reduceEqDiff, reduceCtorEq, argEnv, eq_self, if_true, if_false, *]))
      refine q_ret ?_; simp only [hpl]; exact ⟨_, X, rfl, by rfl, by rfl⟩
    have hb1 : ¬ ((a : Int) < (leastOf out : Int)) := by omega
    by_cases c2 : a % 2 = 1
    · have hpl := pl_bad p (least := leastOf out) h0 (.inr (.inl c2))
      have hb2 : ¬ ((a % 2 : Nat) : Int) = 0 := by omega
      simp only [c33_l0, hE, h0', tm2, hb1, hb2, evX, Int.reduceEq, Int.reduceLT, Int.reduceLE, Nat.reduceMul, Nat.reduceMod, evW, fn_eq, evR, Nat.reduceAdd, Nat.reduceLT, Nat.reduceLeDiff, reduceIte, Nat.reduceEqDiff, reduceCtorEq, argEnv, eq_self, if_true, if_false]
      repeat' (first | (rw [guardK_cases]; split <;> simp only [c33_l0, hE, h0', tm2, hb1, hb2, evX, Int.reduceEq, Int.reduceLT, Int.reduceLE, Nat.reduceMul, Nat.reduceMod, evW, evR, Nat.reduceAdd, Nat.reduceLT, Nat.reduceLeDiff, reduceIte, Nat.reduceEqDiff, reduceCtorEq, argEnv, eq_self, if_true, if_false, *]) | (rw [condK_bool]; split <;> simp only [c33_l0, hE, h0', tm2, hb1, hb2, evX, Int.reduceEq, Int.reduceLT, Int.reduceLE, Nat.reduceMul, Nat.reduceMod, evW, evR, Nat.reduceAdd, Nat.reduceLT, Nat.reduceLeDiff, reduceIte, Nat.reduceEqDiff, reduceCtorEq, argEnv, eq_self, if_true, if_false, *]) | (rw [guardD_cases]; split <;> simp only [c33_l0, hE, h0', tm2, hb1, hb2, evX, Int.reduceEq, Int.reduceLT, Int.reduceLE, Nat.reduceMul, Nat.reduceMod, evW, evR, Nat.reduceAdd, Nat.reduceLT, Nat.reduceLeDiff, reduceIte, Nat.reduceEqDiff, reduceCtorEq, argEnv, eq_self, if_true, if_false, *]))
      refine q_ret ?_; simp only [hpl]; exact ⟨_, X, rfl, by rfl, by rfl⟩
    have hb2 : ((a % 2 : Nat) : Int) = 0 := by omega
    by_cases c3 : 126 < a
    · have hpl := pl_bad p (least := leastOf out) h0 (.inr (.inr c3))
      have hb3 : 128 < ((a + 2 : Nat) : Int) := by omega
      simp only [c33_l0, hE, h0', tm2, hw2, hb1, hb2, hb3, evX, Int.reduceEq, Int.reduceLT, Int.reduceLE, Nat.reduceMul, Nat.reduceMod, evW, fn_eq, evR, Nat.reduceAdd, Nat.reduceLT, Nat.reduceLeDiff, reduceIte, Nat.reduceEqDiff, reduceCtorEq, argEnv, eq_self, if_true, if_false]
      repeat' (first | (rw [guardK_cases]; split <;> simp only [c33_l0, hE, h0', tm2, hw2, hb1, hb2, hb3, evX, Int.reduceEq, Int.reduceLT, Int.reduceLE, Nat.reduceMul, Nat.reduceMod, evW, evR, Nat.reduceAdd, Nat.reduceLT, Nat.reduceLeDiff, reduceIte, Nat.reduceEqDiff, reduceCtorEq, argEnv, eq_self, if_true, if_false, *]) | (rw [condK_bool]; split <;> simp only [c33_l0, hE, h0', tm2, hw2, hb1, hb2, hb3, evX, Int.reduceEq, Int.reduceLT, Int.reduceLE, Nat.reduceMul, Nat.reduceMod, evW, evR, Nat.reduceAdd, Nat.reduceLT, Nat.reduceLeDiff, reduceIte, Nat.reduceEqDiff, reduceCtorEq, argEnv, eq_self, if_true, if_false, *]) | (rw [guardD_cases]; split <;> simp only [c33_l0, hE, h0', tm2, hw2, hb1, hb2, hb3, evX, Int.reduceEq, Int.reduceLT, Int.reduceLE, Nat.reduceMul, Nat.reduceMod, evW, evR, Nat.reduceAdd, Nat.reduceLT, Nat.reduceLeDiff, reduceIte, Nat.reduceEqDiff, reduceCtorEq, argEnv, eq_self, if_true, if_false, *]))
      refine q_ret ?_; simp only [hpl]; exact ⟨_, X, rfl, by rfl, by rfl⟩
    have hb3 : ¬ (128 < ((a + 2 : Nat) : Int)) := by omega
    have hb : ¬ (a < leastOf out ∨ a % 2 = 1 ∨ 126 < a) := by omega
    obtain ⟨q1, hq1, hqt1⟩ := getB H p (i := a + 1) (by omega)
    obtain ⟨q2, hq2, hqt2⟩ := getB H p (i := a) (by omega)
    have hy1 := hp.byte (a + 1)
    have hy2 := hp.byte a
    have hw1 := wrapA1 (a := a) (by omega)
    have hwy1 := wrapN (byte p (a + 1)) (by omega)
    have hwy2 := wrapN (byte p a) (by omega)
    have hws := wrapA (a := a) (b := byte p (a + 1)) (by omega) (by omega)
    have hws1 := wrapA1 (a := a + byte p (a + 1)) (by omega)
    simp only [rB] at hqt1 hqt2
    by_cases e1 : byte p (a + 1) < 2
    · have hpl := pl_bad' p (least := leastOf out) h0 (.inl e1)
      have hc1 : (byte p (a + 1) : Int) < 2 := by omega
      simp only [c33_l0, hE, h0', tm2, hw2, hb1, hb2, hb3, hw1, hq1, hqt1.onex, hwy1, hws, hc1, evX, Int.reduceEq, Int.reduceLT, Int.reduceLE, Nat.reduceMul, Nat.reduceMod, evW, fn_eq, evR, Nat.reduceAdd, Nat.reduceLT, Nat.reduceLeDiff, reduceIte, Nat.reduceEqDiff, reduceCtorEq, argEnv, eq_self, if_true, if_false]
      repeat' (first | (rw [guardK_cases]; split <;> simp only [c33_l0, hE, h0', tm2, hw2, hb1, hb2, hb3, hw1, hq1, hqt1.onex, hwy1, hws, hc1, evX, Int.reduceEq, Int.reduceLT, Int.reduceLE, Nat.reduceMul, Nat.reduceMod, evW, evR, Nat.reduceAdd, Nat.reduceLT, Nat.reduceLeDiff, reduceIte, Nat.reduceEqDiff, reduceCtorEq, argEnv, eq_self, if_true, if_false, *]) | (rw [condK_bool]; split <;> simp only [c33_l0, hE, h0', tm2, hw2, hb1, hb2, hb3, hw1, hq1, hqt1.onex, hwy1, hws, hc1, evX, Int.reduceEq, Int.reduceLT, Int.reduceLE, Nat.reduceMul, Nat.reduceMod, evW, evR, Nat.reduceAdd, Nat.reduceLT, Nat.reduceLeDiff, reduceIte, Nat.reduceEqDiff, reduceCtorEq, argEnv, eq_self, if_true, if_false, *]) | (rw [guardD_cases]; split <;> simp only [c33_l0, hE, h0', tm2, hw2, hb1, hb2, hb3, hw1, hq1, hqt1.onex, hwy1, hws, hc1, evX, Int.reduceEq, Int.reduceLT, Int.reduceLE, Nat.reduceMul, Nat.reduceMod, evW, evR, Nat.reduceAdd, Nat.reduceLT, Nat.reduceLeDiff, reduceIte, Nat.reduceEqDiff, reduceCtorEq, argEnv, eq_self, if_true, if_false, *]))
      refine q_ret ?_; simp only [hpl]; exact ⟨_, X, rfl, by rfl, by rfl⟩
    have hc1 : ¬ ((byte p (a + 1) : Int) < 2) := by omega
    by_cases e2 : byte p (a + 1) % 2 = 1
    · have hpl := pl_bad' p (least := leastOf out) h0 (.inr (.inl e2))
      have hc2 : ¬ ((byte p (a + 1) % 2 : Nat) : Int) = 0 := by omega
      simp only [c33_l0, hE, h0', tm2, hw2, hb1, hb2, hb3, hw1, hq1, hqt1.onex, hwy1, hws, hc1, hc2, evX, Int.reduceEq, Int.reduceLT, Int.reduceLE, Nat.reduceMul, Nat.reduceMod, evW, fn_eq, evR, Nat.reduceAdd, Nat.reduceLT, Nat.reduceLeDiff, reduceIte, Nat.reduceEqDiff, reduceCtorEq, argEnv, eq_self, if_true, if_false]
      repeat' (first | (rw [guardK_cases]; split <;> simp only [c33_l0, hE, h0', tm2, hw2, hb1, hb2, hb3, hw1, hq1, hqt1.onex, hwy1, hws, hc1, hc2, evX, Int.reduceEq, Int.reduceLT, Int.reduceLE, Nat.reduceMul, Nat.reduceMod, evW, evR, Nat.reduceAdd, Nat.reduceLT, Nat.reduceLeDiff, reduceIte, Nat.reduceEqDiff, reduceCtorEq, argEnv, eq_self, if_true, if_false, *]) | (rw [condK_bool]; split <;> simp only [c33_l0, hE, h0', tm2, hw2, hb1, hb2, hb3, hw1, hq1, hqt1.onex, hwy1, hws, hc1, hc2, evX, Int.reduceEq, Int.reduceLT, Int.reduceLE, Nat.reduceMul, Nat.reduceMod, evW, evR, Nat.reduceAdd, Nat.reduceLT, Nat.reduceLeDiff, reduceIte, Nat.reduceEqDiff, reduceCtorEq, argEnv, eq_self, if_true, if_false, *]) | (rw [guardD_cases]; split <;> simp only [c33_l0, hE, h0', tm2, hw2, hb1, hb2, hb3, hw1, hq1, hqt1.onex, hwy1, hws, hc1, hc2, evX, Int.reduceEq, Int.reduceLT, Int.reduceLE, Nat.reduceMul, Nat.reduceMod, evW, evR, Nat.reduceAdd, Nat.reduceLT, Nat.reduceLeDiff, reduceIte, Nat.reduceEqDiff, reduceCtorEq, argEnv, eq_self, if_true, if_false, *]))
      refine q_ret ?_; simp only [hpl]; exact ⟨_, X, rfl, by rfl, by rfl⟩
    have hc2 : ((byte p (a + 1) % 2 : Nat) : Int) = 0 := by omega
    by_cases e3 : 128 < a + byte p (a + 1)
    · have hpl := pl_bad' p (least := leastOf out) h0 (.inr (.inr e3))
      have hc3 : 128 < ((a + byte p (a + 1) : Nat) : Int) := by omega
      simp only [c33_l0, hE, h0', tm2, hw2, hb1, hb2, hb3, hw1, hq1, hqt1.onex, hwy1, hws, hc1, hc2, hc3, evX, Int.reduceEq, Int.reduceLT, Int.reduceLE, Nat.reduceMul, Nat.reduceMod, evW, fn_eq, evR, Nat.reduceAdd, Nat.reduceLT, Nat.reduceLeDiff, reduceIte, Nat.reduceEqDiff, reduceCtorEq, argEnv, eq_self, if_true, if_false]
      repeat' (first | (rw [guardK_cases]; split <;> simp only [c33_l0, hE, h0', tm2, hw2, hb1, hb2, hb3, hw1, hq1, hqt1.onex, hwy1, hws, hc1, hc2, hc3, evX, Int.reduceEq, Int.reduceLT, Int.reduceLE, Nat.reduceMul, Nat.reduceMod, evW, evR, Nat.reduceAdd, Nat.reduceLT, Nat.reduceLeDiff, reduceIte, Nat.reduceEqDiff, reduceCtorEq, argEnv, eq_self, if_true, if_false, *]) | (rw [condK_bool]; split <;> simp only [c33_l0, hE, h0', tm2, hw2, hb1, hb2, hb3, hw1, hq1, hqt1.onex, hwy1, hws, hc1, hc2, hc3, evX, Int.reduceEq, Int.reduceLT, Int.reduceLE, Nat.reduceMul, Nat.reduceMod, evW, evR, Nat.reduceAdd, Nat.reduceLT, Nat.reduceLeDiff, reduceIte, Nat.reduceEqDiff, reduceCtorEq, argEnv, eq_self, if_true, if_false, *]) | (rw [guardD_cases]; split <;> simp only [c33_l0, hE, h0', tm2, hw2, hb1, hb2, hb3, hw1, hq1, hqt1.onex, hwy1, hws, hc1, hc2, hc3, evX, Int.reduceEq, Int.reduceLT, Int.reduceLE, Nat.reduceMul, Nat.reduceMod, evW, evR, Nat.reduceAdd, Nat.reduceLT, Nat.reduceLeDiff, reduceIte, Nat.reduceEqDiff, reduceCtorEq, argEnv, eq_self, if_true, if_false, *]))
      refine q_ret ?_; simp only [hpl]; exact ⟨_, X, rfl, by rfl, by rfl⟩
    have hc3 : ¬ (128 < ((a + byte p (a + 1) : Nat) : Int)) := by omega
    have hpl := pl_next p (least := leastOf out) h0 hb (by omega)
    have hap := fun Y v => out_app (hO.more Y) 16 H rfl v
    have hbnd : ((out.map rPl).length + 1) * 16 ≤ reach ∧ (out.map rPl).length + 1 ≤ reach := by simp only [List.length_map, reach]; omega
    have hl2 : leastOf (out ++ [(a, byte p (a + 1))]) = a + byte p (a + 1) + 1 := by simp [leastOf]
    simp only [c33_l0, hE, h0', tm2, hw2, hb1, hb2, hb3, hw1, hq1, hqt1.onex, hwy1, hws, hc1, hc2, hc3, hap, src_ref, hbnd, hws1, hq2, hqt2.onex, hwy2, evX, Int.reduceEq, Int.reduceLT, Int.reduceLE, Nat.reduceMul, Nat.reduceMod, evW, fn_eq, evR, Nat.reduceAdd, Nat.reduceLT, Nat.reduceLeDiff, reduceIte, Nat.reduceEqDiff, reduceCtorEq, argEnv, eq_self, if_true, if_false]
    repeat' (first | (rw [guardK_cases]; split <;> simp only [c33_l0, hE, h0', tm2, hw2, hb1, hb2, hb3, hw1, hq1, hqt1.onex, hwy1, hws, hc1, hc2, hc3, hap, src_ref, hbnd, hws1, hq2, hqt2.onex, hwy2, evX, Int.reduceEq, Int.reduceLT, Int.reduceLE, Nat.reduceMul, Nat.reduceMod, evW, evR, Nat.reduceAdd, Nat.reduceLT, Nat.reduceLeDiff, reduceIte, Nat.reduceEqDiff, reduceCtorEq, argEnv, eq_self, if_true, if_false, *]) | (rw [condK_bool]; split <;> simp only [c33_l0, hE, h0', tm2, hw2, hb1, hb2, hb3, hw1, hq1, hqt1.onex, hwy1, hws, hc1, hc2, hc3, hap, src_ref, hbnd, hws1, hq2, hqt2.onex, hwy2, evX, Int.reduceEq, Int.reduceLT, Int.reduceLE, Nat.reduceMul, Nat.reduceMod, evW, evR, Nat.reduceAdd, Nat.reduceLT, Nat.reduceLeDiff, reduceIte, Nat.reduceEqDiff, reduceCtorEq, argEnv, eq_self, if_true, if_false, *]) | (rw [guardD_cases]; split <;> simp only [c33_l0, hE, h0', tm2, hw2, hb1, hb2, hb3, hw1, hq1, hqt1.onex, hwy1, hws, hc1, hc2, hc3, hap, src_ref, hbnd, hws1, hq2, hqt2.onex, hwy2, evX, Int.reduceEq, Int.reduceLT, Int.reduceLE, Nat.reduceMul, Nat.reduceMod, evW, evR, Nat.reduceAdd, Nat.reduceLT, Nat.reduceLeDiff, reduceIte, Nat.reduceEqDiff, reduceCtorEq, argEnv, eq_self, if_true, if_false, *]))
    refine q_next (out ++ [(a, byte p (a + 1))], byte p a, _, _) (by rw [hl2]; rfl) rfl ⟨hy2, ?_, ?_, by rw [List.map_append]; exact (hO.more _).step (by simp), ?_⟩ ?_ fun r h => ?_
    · rw [List.length_append, List.length_singleton]; omega
    · intro x hx
      rcases List.mem_append.1 hx with hx | hx
      · exact hob x hx
      · simp at hx; subst hx; exact ⟨by show a < 128; omega, hy1⟩
    · simp only [hl2, List.length_append, List.length_singleton]; omega
    · simp only [hl2]; omega
    · rw [hpl]
      rw [hl2] at h
      cases hq : pl p (byte p a) (a + byte p (a + 1) + 1) with
      | none => rw [hq] at h; exact h
      | some l => rw [hq] at h; simpa using h
/-- what both answer -/
def plAns (p : List Nat) : List Pl × Bool := match plOf p with
  | some l => (l, true)
  | none => ([], false)
theorem fz_rPl {n ty : Nat} {X : Heap} {rv : AV} {l : List Pl} (h : Out n 2 ty X rv (l.map rPl)) (H : Heap) (hn : n = H.length) : ∃ ids, fz (H ++ X) 8 rv = some (ePl l, ids) ∧ ∀ b ∈ ids, n ≤ b :=
  fz_out h H hn (fun r hr a ha => by
    obtain ⟨x, _, rfl⟩ := List.mem_map.1 hr
    simp [rPl] at ha
    rcases ha with rfl | rfl <;> exact ⟨rfl, fun m H => rfl⟩) 6
theorem fz_plsB {H X : Heap} {ty : Nat} {rv : AV} {l : List Pl} (h : Out H.length 2 ty X rv (l.map rPl)) (b : Bool) : calK true H (some (.tup [rv, .bool b], H ++ X)) = some (.tup [ePl l, .bool b], H) := by
  obtain ⟨ids, h1, h2⟩ := fz_rPl h H rfl
  refine calK_frz (ids := ids) ?_ rfl (by simp) h2
  have e1 : fz1 (H ++ X) rv = fz (H ++ X) 8 rv := by rcases h with ⟨_, rfl | rfl⟩ | ⟨_, j, v, rfl, _⟩ <;> rfl
  show (fzCells (fz1 _) [rv, .bool b]).map _ = _
  have e2 : fz1 (H ++ X) (.bool b) = some (.bool b, []) := rfl
  simp only [fzCells, e1, h1, e2, Option.map_some, List.append_nil]
theorem byteAt (p : List Nat) {i : Nat} (hi : i < p.length) : (p.map rB)[i]? = some (rB (byte p i)) := by
  rw [List.getElem?_map]; unfold byte; rw [List.getElem?_eq_getElem hi]; rfl
theorem f33 (p : List Nat) (hp : Page p) (H : Heap) : cal (evC cprog) true 33 [eB p] H = some (.tup [ePl (plAns p).1, .bool (plAns p).2], H) := by
  have h4 := (sB H p).len
  simp only [List.length_map] at h4
  rw [cal_of at33]
  by_cases h128 : p.length = 128
  · have hl1 : ((p.length : Nat) : Int) = 128 := by omega
    obtain ⟨q0, hq0, hqt0⟩ := getB H p (i := 0) (by omega)
    obtain ⟨q1, hq1, hqt1⟩ := getB H p (i := 1) (by omega)
    have hq0 : iaddrK 1 (some (eB p)) (some (.int .i64 0)) = some q0 := hq0
    have hq1 : iaddrK 1 (some (eB p)) (some (.int .i64 1)) = some q1 := hq1
    simp only [rB] at hqt0 hqt1
    by_cases h83 : byte p 1 = 83
    · have h83' : ((byte p 1 : Nat) : Int) = 83 := by omega
      have hlp := l33 p hp h128 H (byte p 0) (hp.byte 0)
      have hw := wrapN (byte p 0) (by have := hp.byte 0; omega)
      simp only [c33, h4, hl1, hq0, hq1, hqt0.one, hqt1.one, h83', hw, evX, Int.reduceEq, Int.reduceLT, Int.reduceLE, Nat.reduceMul, Nat.reduceMod, evW, fn_eq, evR, Nat.reduceAdd, Nat.reduceLT, Nat.reduceLeDiff, reduceIte, Nat.reduceEqDiff, reduceCtorEq, argEnv, eq_self, if_true, if_false]
      repeat' (first | (rw [guardK_cases]; split <;> simp only [c33, h4, hl1, hq0, hq1, hqt0.one, hqt1.one, h83', hw, evX, Int.reduceEq, Int.reduceLT, Int.reduceLE, Nat.reduceMul, Nat.reduceMod, evW, evR, Nat.reduceAdd, Nat.reduceLT, Nat.reduceLeDiff, reduceIte, Nat.reduceEqDiff, reduceCtorEq, argEnv, eq_self, if_true, if_false, *]) | (rw [condK_bool]; split <;> simp only [c33, h4, hl1, hq0, hq1, hqt0.one, hqt1.one, h83', hw, evX, Int.reduceEq, Int.reduceLT, Int.reduceLE, Nat.reduceMul, Nat.reduceMod, evW, evR, Nat.reduceAdd, Nat.reduceLT, Nat.reduceLeDiff, reduceIte, Nat.reduceEqDiff, reduceCtorEq, argEnv, eq_self, if_true, if_false, *]) | (rw [guardD_cases]; split <;> simp only [c33, h4, hl1, hq0, hq1, hqt0.one, hqt1.one, h83', hw, evX, Int.reduceEq, Int.reduceLT, Int.reduceLE, Nat.reduceMul, Nat.reduceMod, evW, evR, Nat.reduceAdd, Nat.reduceLT, Nat.reduceLeDiff, reduceIte, Nat.reduceEqDiff, reduceCtorEq, argEnv, eq_self, if_true, if_false, *]))
      generalize hz : itLim _ _ = z
      obtain ⟨T, X, h⟩ := hlp _ (by rfl) rfl z hz
      cases hq : pl p (byte p 0) 2 with
      | some l =>
        have ha : plAns p = (l, true) := by simp [plAns, plOf, h128, h83, hq]
        rw [hq] at h
        obtain ⟨rfl, rv, hT, hO⟩ := h
        rw [ha]
        simp only [hT, out_tup hO, evX, Int.reduceEq, Int.reduceLT, Int.reduceLE, Nat.reduceMul, Nat.reduceMod, evW, fn_eq, evR, Nat.reduceAdd, Nat.reduceLT, Nat.reduceLeDiff, reduceIte, Nat.reduceEqDiff, reduceCtorEq, argEnv, eq_self, if_true, if_false]
        repeat' (first | (rw [guardK_cases]; split <;> simp only [hT, out_tup hO, evX, Int.reduceEq, Int.reduceLT, Int.reduceLE, Nat.reduceMul, Nat.reduceMod, evW, evR, Nat.reduceAdd, Nat.reduceLT, Nat.reduceLeDiff, reduceIte, Nat.reduceEqDiff, reduceCtorEq, argEnv, eq_self, if_true, if_false, *]) | (rw [condK_bool]; split <;> simp only [hT, out_tup hO, evX, Int.reduceEq, Int.reduceLT, Int.reduceLE, Nat.reduceMul, Nat.reduceMod, evW, evR, Nat.reduceAdd, Nat.reduceLT, Nat.reduceLeDiff, reduceIte, Nat.reduceEqDiff, reduceCtorEq, argEnv, eq_self, if_true, if_false, *]) | (rw [guardD_cases]; split <;> simp only [hT, out_tup hO, evX, Int.reduceEq, Int.reduceLT, Int.reduceLE, Nat.reduceMul, Nat.reduceMod, evW, evR, Nat.reduceAdd, Nat.reduceLT, Nat.reduceLeDiff, reduceIte, Nat.reduceEqDiff, reduceCtorEq, argEnv, eq_self, if_true, if_false, *]))
        exact fz_plsB hO true
      | none =>
        have ha : plAns p = ([], false) := by simp [plAns, plOf, hq]
        rw [hq] at h
        obtain ⟨rfl, hT1, hT2⟩ := h
        rw [ha]
        simp only [hT1, hT2, evX, Int.reduceEq, Int.reduceLT, Int.reduceLE, Nat.reduceMul, Nat.reduceMod, evW, fn_eq, evR, Nat.reduceAdd, Nat.reduceLT, Nat.reduceLeDiff, reduceIte, Nat.reduceEqDiff, reduceCtorEq, argEnv, eq_self, if_true, if_false]
        repeat' (first | (rw [guardK_cases]; split <;> simp only [hT1, hT2, evX, Int.reduceEq, Int.reduceLT, Int.reduceLE, Nat.reduceMul, Nat.reduceMod, evW, evR, Nat.reduceAdd, Nat.reduceLT, Nat.reduceLeDiff, reduceIte, Nat.reduceEqDiff, reduceCtorEq, argEnv, eq_self, if_true, if_false, *]) | (rw [condK_bool]; split <;> simp only [hT1, hT2, evX, Int.reduceEq, Int.reduceLT, Int.reduceLE, Nat.reduceMul, Nat.reduceMod, evW, evR, Nat.reduceAdd, Nat.reduceLT, Nat.reduceLeDiff, reduceIte, Nat.reduceEqDiff, reduceCtorEq, argEnv, eq_self, if_true, if_false, *]) | (rw [guardD_cases]; split <;> simp only [hT1, hT2, evX, Int.reduceEq, Int.reduceLT, Int.reduceLE, Nat.reduceMul, Nat.reduceMod, evW, evR, Nat.reduceAdd, Nat.reduceLT, Nat.reduceLeDiff, reduceIte, Nat.reduceEqDiff, reduceCtorEq, argEnv, eq_self, if_true, if_false, *]))
        exact fz_plsB (X := X) (ty := 35) (l := []) (.nils ..) false
    · have h83' : ¬ ((byte p 1 : Nat) : Int) = 83 := by omega
      have ha : plAns p = ([], false) := by simp [plAns, plOf, h83]
      rw [ha]
      simp only [c33, h4, hl1, hq1, hqt1.one, h83', evX, Int.reduceEq, Int.reduceLT, Int.reduceLE, Nat.reduceMul, Nat.reduceMod, evW, fn_eq, evR, Nat.reduceAdd, Nat.reduceLT, Nat.reduceLeDiff, reduceIte, Nat.reduceEqDiff, reduceCtorEq, argEnv, eq_self, if_true, if_false]
      repeat' (first | (rw [guardK_cases]; split <;> simp only [c33, h4, hl1, hq1, hqt1.one, h83', evX, Int.reduceEq, Int.reduceLT, Int.reduceLE, Nat.reduceMul, Nat.reduceMod, evW, evR, Nat.reduceAdd, Nat.reduceLT, Nat.reduceLeDiff, reduceIte, Nat.reduceEqDiff, reduceCtorEq, argEnv, eq_self, if_true, if_false, *]) | (rw [condK_bool]; split <;> simp only [c33, h4, hl1, hq1, hqt1.one, h83', evX, Int.reduceEq, Int.reduceLT, Int.reduceLE, Nat.reduceMul, Nat.reduceMod, evW, evR, Nat.reduceAdd, Nat.reduceLT, Nat.reduceLeDiff, reduceIte, Nat.reduceEqDiff, reduceCtorEq, argEnv, eq_self, if_true, if_false, *]) | (rw [guardD_cases]; split <;> simp only [c33, h4, hl1, hq1, hqt1.one, h83', evX, Int.reduceEq, Int.reduceLT, Int.reduceLE, Nat.reduceMul, Nat.reduceMod, evW, evR, Nat.reduceAdd, Nat.reduceLT, Nat.reduceLeDiff, reduceIte, Nat.reduceEqDiff, reduceCtorEq, argEnv, eq_self, if_true, if_false, *]))
      exact (by simpa using fz_plsB (H := H) (X := []) (ty := 35) (l := []) (.nils ..) false)
  · have hl1 : ¬ ((p.length : Nat) : Int) = 128 := by omega
    have ha : plAns p = ([], false) := by simp [plAns, plOf, h128]
    rw [ha]
    simp only [c33, h4, hl1, evX, Int.reduceEq, Int.reduceLT, Int.reduceLE, Nat.reduceMul, Nat.reduceMod, evW, fn_eq, evR, Nat.reduceAdd, Nat.reduceLT, Nat.reduceLeDiff, reduceIte, Nat.reduceEqDiff, reduceCtorEq, argEnv, eq_self, if_true, if_false]
    repeat' (first | (rw [guardK_cases]; split <;> simp only [c33, h4, hl1, evX, Int.reduceEq, Int.reduceLT, Int.reduceLE, Nat.reduceMul, Nat.reduceMod, evW, evR, Nat.reduceAdd, Nat.reduceLT, Nat.reduceLeDiff, reduceIte, Nat.reduceEqDiff, reduceCtorEq, argEnv, eq_self, if_true, if_false, *]) | (rw [condK_bool]; split <;> simp only [c33, h4, hl1, evX, Int.reduceEq, Int.reduceLT, Int.reduceLE, Nat.reduceMul, Nat.reduceMod, evW, evR, Nat.reduceAdd, Nat.reduceLT, Nat.reduceLeDiff, reduceIte, Nat.reduceEqDiff, reduceCtorEq, argEnv, eq_self, if_true, if_false, *]) | (rw [guardD_cases]; split <;> simp only [c33, h4, hl1, evX, Int.reduceEq, Int.reduceLT, Int.reduceLE, Nat.reduceMul, Nat.reduceMod, evW, evR, Nat.reduceAdd, Nat.reduceLT, Nat.reduceLeDiff, reduceIte, Nat.reduceEqDiff, reduceCtorEq, argEnv, eq_self, if_true, if_false, *]))
    exact (by simpa using fz_plsB (H := H) (X := []) (ty := 35) (l := []) (.nils ..) false)
end Go.Proofs.Ythgcnlmmgilhjaa.Code
