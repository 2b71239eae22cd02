/- Texts of ours, joined into one file; each begins with its own remark. -/
import Derived.Test.YthgcnlmmgilhjaaCodeB
import Derived.Test.YthgcnlmmgilhjaaEvX
import Derived.Test.YthgcnlmmgilhjaaEvR
import Derived.Test.YthgcnlmmgilhjaaEvZ
import Derived.Test.YthgcnlmmgilhjaaIb
/- page: the free places of a page, as the program and as the document read them. -/
set_option linter.unusedSimpArgs false
set_option linter.unusedVariables false
namespace Go.Proofs.Ythgcnlmmgilhjaa.Code
open Go.Proofs.Ythgcnlmmgilhjaa.Ev

def rB (n : Nat) : List AV := [.int .u8 (n : Int)]
def eB (p : List Nat) : AV := .lst (p.map rB)
abbrev Pl := Nat × Nat
def rPl (x : Pl) : List AV := [.int .i64 (x.1 : Int), .int .i64 (x.2 : Int)]
def ePl (l : List Pl) : AV := .lst (l.map rPl)
def byte (p : List Nat) (i : Nat) : Nat := (p[i]?).getD 0
/-- the free places from an offset on, where the next one must not stand ahead of another offset -/
def pl (p : List Nat) (at' least : Nat) : Option (List Pl) :=
  if at' = 0 then some []
  else if h : at' < least ∨ at' % 2 = 1 ∨ 126 < at' then none
  else if byte p (at' + 1) < 2 ∨ byte p (at' + 1) % 2 = 1 ∨ 128 < at' + byte p (at' + 1) then none
  else (pl p (byte p at') (at' + byte p (at' + 1) + 1)).map fun l => (at', byte p (at' + 1)) :: l
termination_by 130 - least
decreasing_by omega
theorem pl_zero (p : List Nat) (least : Nat) : pl p 0 least = some [] := by rw [pl, if_pos rfl]
theorem pl_bad (p : List Nat) {a least : Nat} (h0 : a ≠ 0) (h : a < least ∨ a % 2 = 1 ∨ 126 < a) : pl p a least = none := by rw [pl, if_neg h0, dif_pos h]
theorem pl_bad' (p : List Nat) {a least : Nat} (h0 : a ≠ 0) (h : byte p (a + 1) < 2 ∨ byte p (a + 1) % 2 = 1 ∨ 128 < a + byte p (a + 1)) : pl p a least = none := by
  rw [pl, if_neg h0]
  split <;> first | rfl | rw [if_pos h]
theorem pl_next (p : List Nat) {a least : Nat} (h0 : a ≠ 0) (h : ¬ (a < least ∨ a % 2 = 1 ∨ 126 < a)) (h' : ¬ (byte p (a + 1) < 2 ∨ byte p (a + 1) % 2 = 1 ∨ 128 < a + byte p (a + 1))) :
    pl p a least = (pl p (byte p a) (a + byte p (a + 1) + 1)).map fun l => (a, byte p (a + 1)) :: l := by
  conv => lhs; rw [pl]
  rw [if_neg h0, dif_neg h, if_neg h']
def leastOf (out : List Pl) : Nat := match out.getLast? with
  | some x => x.1 + x.2 + 1
  | none => 2
/-- the free places of a page; none: it is no page of places -/
def plOf (p : List Nat) : Option (List Pl) := if p.length = 128 ∧ byte p 1 = 83 then pl p (byte p 0) 2 else none
structure Page (p : List Nat) : Prop where
  len : p.length < 9223372036854775807
  small : ∀ n ∈ p, n < 256
theorem Page.byte {p : List Nat} (h : Page p) (i : Nat) : byte p i < 256 := by
  unfold Code.byte
  cases hi : p[i]? with
  | none => decide
  | some n => exact h.small n (List.mem_of_getElem? hi)
theorem sB (H : Heap) (p : List Nat) : SlAt H 1 (eB p) (p.map rB) := .lst fun r hr => by obtain ⟨n, _, rfl⟩ := List.mem_map.1 hr; rfl
theorem sPl (H : Heap) (l : List Pl) : SlAt H 2 (ePl l) (l.map rPl) := .lst fun r hr => by obtain ⟨n, _, rfl⟩ := List.mem_map.1 hr; rfl
/-- a byte of a page, as it is read -/
theorem getB (H : Heap) (p : List Nat) {i : Nat} (hi : i < p.length) : ∃ q, iaddrK 1 (some (eB p)) (some (.int .i64 (i : Int))) = some q ∧ PtrAt H q (rB (byte p i)) := by
  obtain ⟨_, q, h1, h2⟩ := (sB H p).get i (rB (byte p i)) (by rw [List.getElem?_map]; unfold byte; rw [List.getElem?_eq_getElem hi]; rfl)
  exact ⟨q, h1, h2⟩
theorem tm2 (a : Nat) : (a : Int).tmod 2 = ((a % 2 : Nat) : Int) := rfl
theorem wrapN (a : Nat) (h : a < 1000000) : IntKind.i64.wrap (a : Int) = (a : Int) := wrap_i64 (by omega) (by omega)
theorem wrapA {a b : Nat} (ha : a < 1000000) (hb : b < 1000000) : IntKind.i64.wrap ((a : Int) + (b : Int)) = ((a + b : Nat) : Int) := by
  rw [wrap_i64 (by omega) (by omega)]; omega
theorem wrapA1 {a : Nat} (ha : a < 1000000) : IntKind.i64.wrap ((a : Int) + 1) = ((a + 1 : Nat) : Int) := by
  rw [wrap_i64 (by omega) (by omega)]; omega
theorem wrapA2 {a : Nat} (ha : a < 1000000) : IntKind.i64.wrap ((a : Int) + 2) = ((a + 2 : Nat) : Int) := by
  rw [wrap_i64 (by omega) (by omega)]; omega
theorem f47 (x : Pl) (h1 : x.1 < 1000000) (h2 : x.2 < 1000000) (H : Heap) : cal (evC cprog) false 47 [.agg (rPl x)] H = some (.int .i64 ((x.1 + x.2 : Nat) : Int), H) := by
  rw [cal_of at47]
  simp only [c47, rPl, wrapA h1 h2, evX, Int.reduceEq, Int.reduceLT, Int.reduceLE, Nat.reduceMul, Nat.reduceMod, evW, fn_eq, evR, Nat.reduceAdd, Nat.reduceLT, Nat.reduceLeDiff, reduceIte, Nat.reduceEqDiff, reduceCtorEq, argEnv, eq_self, if_true, if_false]
  repeat' ((first | rw [guardK_cases] | rw [condK_bool] | rw [guardD_cases]); split <;> simp only [c47, rPl, wrapA h1 h2, evX, Int.reduceEq, Int.reduceLT, Int.reduceLE, Nat.reduceMul, Nat.reduceMod, evW, evR, Nat.reduceAdd, Nat.reduceLT, Nat.reduceLeDiff, reduceIte, Nat.reduceEqDiff, reduceCtorEq, argEnv, eq_self, if_true, if_false, *])
theorem pl_bound {out : List Pl} (h : ∀ x ∈ out, x.1 < 128 ∧ x.2 < 256) : leastOf out < 1000 := by
  unfold leastOf
  cases hl : out.getLast? with
  | none => decide
  | some x => have := h x (List.mem_of_getLast? hl); simp only; omega
/-- what both answer -/
def plAns (p : List Nat) : List Pl × Bool := match plOf p with
  | some l => (l, true)
  | none => ([], false)
theorem fz_rPl {n ty : Nat} {X : Heap} {rv : AV} {l : List Pl} (h : Out n 2 ty X rv (l.map rPl)) (H : Heap) (hn : n = H.length) : ∃ ids, fz (H ++ X) 8 rv = some (ePl l, ids) ∧ ∀ b ∈ ids, n ≤ b :=
  fz_out h H hn (fun r hr a ha => by
    obtain ⟨x, _, rfl⟩ := List.mem_map.1 hr
    simp [rPl] at ha
    rcases ha with rfl | rfl <;> exact ⟨rfl, fun m H => rfl⟩) 6
theorem fz_plsB {H X : Heap} {ty : Nat} {rv : AV} {l : List Pl} (h : Out H.length 2 ty X rv (l.map rPl)) (b : Bool) : calK true H (some (.tup [rv, .bool b], H ++ X)) = some (.tup [ePl l, .bool b], H) := by
  obtain ⟨ids, h1, h2⟩ := fz_rPl h H rfl
  refine calK_frz (ids := ids) ?_ rfl (by simp) h2
  have e1 : fz1 (H ++ X) rv = fz (H ++ X) 8 rv := by rcases h with ⟨_, rfl | rfl⟩ | ⟨_, j, v, rfl, _⟩ <;> rfl
  show (fzCells (fz1 _) [rv, .bool b]).map _ = _
  have e2 : fz1 (H ++ X) (.bool b) = some (.bool b, []) := rfl
  simp only [fzCells, e1, h1, e2, Option.map_some, List.append_nil]
theorem byteAt (p : List Nat) {i : Nat} (hi : i < p.length) : (p.map rB)[i]? = some (rB (byte p i)) := by
  rw [List.getElem?_map]; unfold byte; rw [List.getElem?_eq_getElem hi]; rfl
end Go.Proofs.Ythgcnlmmgilhjaa.Code

/- page: the program's reading of a page. -/
set_option linter.unusedSimpArgs false
set_option linter.unusedVariables false
namespace Go.Proofs.Ythgcnlmmgilhjaa.Code
open Go.Proofs.Ythgcnlmmgilhjaa.Ev

theorem least_ge {out : List Pl} (h : ∀ x ∈ out, 1 ≤ x.1) : 2 ≤ leastOf out := by
  unfold leastOf
  cases hl : out.getLast? with
  | none => decide
  | some x => have := h x (List.mem_of_getLast? hl); simp only; omega
theorem l32 (p : List Nat) (hp : Page p) (h128 : p.length = 128) (H : Heap) (a : Nat) (ha : a < 256) (st : St)
    (hE : keepEnv st.1 [0, 4, 5] = [(0, eB p), (4, .nils), (5, .int .i64 (a : Int))]) (hH : st.2 = H) (z : Option (CX × St)) (hz : itLim (evCode (evC cprog) itLim c32_l0) st = z) :
    ∃ T X, (match pl p a 2 with
      | some l => z = some (.exit 0, T, H ++ X) ∧ ∃ rv, get T 4 = some rv ∧ Out H.length 2 55 X rv (l.map rPl)
      | none => z = some (.ret, T, H ++ X) ∧ get T 2 = some .nils ∧ get T 3 = some (.bool false)) := by
  have L := loop_rule (σ := List Pl × Nat × Heap × AV) (m := [0, 4, 5]) (env := fun i => [(0, eB p), (4, i.2.2.2), (5, .int .i64 (i.2.1 : Int))]) (hp := fun i => H ++ i.2.2.1)
    (P := fun i r => ∃ T X, (match pl p i.2.1 (leastOf i.1) with
      | some l => r = (.exit 0, T, H ++ X) ∧ ∃ rv, get T 4 = some rv ∧ Out H.length 2 55 X rv ((i.1 ++ l).map rPl)
      | none => r = (.ret, T, H ++ X) ∧ get T 2 = some .nils ∧ get T 3 = some (.bool false)))
    (mu := fun i => 1000 - leastOf i.1) (I := fun i => i.2.1 < 256 ∧ i.1.length ≤ 1000 ∧ (∀ x ∈ i.1, (x.1 < 128 ∧ x.2 < 256) ∧ 1 ≤ x.1) ∧ Out H.length 2 55 i.2.2.1 i.2.2.2 (i.1.map rPl) ∧ i.1.length ≤ leastOf i.1) (evCode (evC cprog) itLim c32_l0) ?_ ([], a, [], .nils) st ⟨ha, by simp, by simp, .nils .., by simp⟩ hE (by simpa using hH) z hz
  · obtain ⟨r, rfl, T, X, h⟩ := L
    refine ⟨T, X, ?_⟩
    simp only [leastOf, List.getLast?_nil, List.nil_append] at h
    split at h
    · exact ⟨by rw [h.1], h.2⟩
    · exact ⟨by rw [h.1], h.2⟩
  · intro ⟨out, a, X, rv⟩ ⟨ha, hol, hob, hO, hlo⟩ E hE
    simp only at ha hol hob hO hlo hE ⊢
    have hlb := pl_bound fun x hx => (hob x hx).1
    have hlg := least_ge fun x hx => (hob x hx).2
    by_cases h0 : a = 0
    · subst h0
      have z0 : decide (((0 : Nat) : Int) = 0) = true := rfl
      simp only [c32_l0, hE, z0, evX, Int.reduceEq, Int.reduceLT, Int.reduceLE, Nat.reduceMul, Nat.reduceMod, evW, fn_eq, evR, Nat.reduceAdd, Nat.reduceLT, Nat.reduceLeDiff, reduceIte, Nat.reduceEqDiff, reduceCtorEq, argEnv, eq_self, if_true, if_false]
      repeat' ((first | rw [guardK_cases] | rw [condK_bool] | rw [guardD_cases]); split <;> simp only [c32_l0, hE, z0, evX, Int.reduceEq, Int.reduceLT, Int.reduceLE, Nat.reduceMul, Nat.reduceMod, evW, evR, Nat.reduceAdd, Nat.reduceLT, Nat.reduceLeDiff, reduceIte, Nat.reduceEqDiff, reduceCtorEq, argEnv, eq_self, if_true, if_false, *])
      refine q_exit ?_
      simp only [pl_zero]
      exact ⟨_, X, rfl, rv, by rfl, by simpa using hO⟩
    have h0' : ¬ ((a : Int) = 0) := by omega
    by_cases c0 : a < 2
    · have hpl := pl_bad p (least := leastOf out) h0 (.inl (by omega))
      have hb1 : (a : Int) < 2 := by omega
      simp only [c32_l0, hE, h0', hb1, evX, Int.reduceEq, Int.reduceLT, Int.reduceLE, Nat.reduceMul, Nat.reduceMod, evW, fn_eq, evR, Nat.reduceAdd, Nat.reduceLT, Nat.reduceLeDiff, reduceIte, Nat.reduceEqDiff, reduceCtorEq, argEnv, eq_self, if_true, if_false]
      repeat' ((first | rw [guardK_cases] | rw [condK_bool] | rw [guardD_cases]); split <;> simp only [c32_l0, hE, h0', hb1, evX, Int.reduceEq, Int.reduceLT, Int.reduceLE, Nat.reduceMul, Nat.reduceMod, evW, evR, Nat.reduceAdd, Nat.reduceLT, Nat.reduceLeDiff, reduceIte, Nat.reduceEqDiff, reduceCtorEq, argEnv, eq_self, if_true, if_false, *])
      refine q_ret ?_; simp only [hpl]; exact ⟨_, X, rfl, by rfl, by rfl⟩
    have hb1 : ¬ ((a : Int) < 2) := by omega
    by_cases c2 : a % 2 = 1
    · have hpl := pl_bad p (least := leastOf out) h0 (.inr (.inl c2))
      have hb2 : ((a % 2 : Nat) : Int) = 1 := by omega
      simp only [c32_l0, hE, h0', tm2, hb1, hb2, evX, Int.reduceEq, Int.reduceLT, Int.reduceLE, Nat.reduceMul, Nat.reduceMod, evW, fn_eq, evR, Nat.reduceAdd, Nat.reduceLT, Nat.reduceLeDiff, reduceIte, Nat.reduceEqDiff, reduceCtorEq, argEnv, eq_self, if_true, if_false]
      repeat' ((first | rw [guardK_cases] | rw [condK_bool] | rw [guardD_cases]); split <;> simp only [c32_l0, hE, h0', tm2, hb1, hb2, evX, Int.reduceEq, Int.reduceLT, Int.reduceLE, Nat.reduceMul, Nat.reduceMod, evW, evR, Nat.reduceAdd, Nat.reduceLT, Nat.reduceLeDiff, reduceIte, Nat.reduceEqDiff, reduceCtorEq, argEnv, eq_self, if_true, if_false, *])
      refine q_ret ?_; simp only [hpl]; exact ⟨_, X, rfl, by rfl, by rfl⟩
    have hb2 : ¬ ((a % 2 : Nat) : Int) = 1 := by omega
    by_cases c3 : 126 < a
    · have hpl := pl_bad p (least := leastOf out) h0 (.inr (.inr c3))
      have hb3 : 126 < (a : Int) := by omega
      simp only [c32_l0, hE, h0', tm2, hb1, hb2, hb3, evX, Int.reduceEq, Int.reduceLT, Int.reduceLE, Nat.reduceMul, Nat.reduceMod, evW, fn_eq, evR, Nat.reduceAdd, Nat.reduceLT, Nat.reduceLeDiff, reduceIte, Nat.reduceEqDiff, reduceCtorEq, argEnv, eq_self, if_true, if_false]
      repeat' ((first | rw [guardK_cases] | rw [condK_bool] | rw [guardD_cases]); split <;> simp only [c32_l0, hE, h0', tm2, hb1, hb2, hb3, evX, Int.reduceEq, Int.reduceLT, Int.reduceLE, Nat.reduceMul, Nat.reduceMod, evW, evR, Nat.reduceAdd, Nat.reduceLT, Nat.reduceLeDiff, reduceIte, Nat.reduceEqDiff, reduceCtorEq, argEnv, eq_self, if_true, if_false, *])
      refine q_ret ?_; simp only [hpl]; exact ⟨_, X, rfl, by rfl, by rfl⟩
    have hb3 : ¬ (126 < (a : Int)) := by omega
    have hol' := out_len hO
    simp only [List.length_map] at hol'
    have hS := out_slat hO H rfl (fun r hr => by obtain ⟨x, _, rfl⟩ := List.mem_map.1 hr; rfl)
    cases hgl : out.getLast? with
    | none =>
      have hout : out = [] := List.getLast?_eq_none_iff.1 hgl
      have hlz : ¬ (0 : Int) < (out.length : Int) := by rw [hout]; simp
      have hl0 : leastOf out = 2 := by rw [hout]; rfl
      obtain ⟨q1, hq1, hqt1⟩ := getB H p (i := a + 1) (by omega)
      obtain ⟨q2, hq2, hqt2⟩ := getB H p (i := a) (by omega)
      have hy1 := hp.byte (a + 1)
      have hy2 := hp.byte a
      have hw1 := wrapA1 (a := a) (by omega)
      have hwy1 := wrapN (byte p (a + 1)) (by omega)
      have hwy2 := wrapN (byte p a) (by omega)
      simp only [rB] at hqt1 hqt2
      by_cases e1 : byte p (a + 1) < 2
      · have hpl := pl_bad' p (least := leastOf out) h0 (.inl e1)
        have hc1 : (byte p (a + 1) : Int) < 2 := by omega
        simp only [c32_l0, hE, h0', tm2, hb1, hb2, hb3, hol', hlz, hw1, hq1, hqt1.onex, hwy1, hc1, evX, Int.reduceEq, Int.reduceLT, Int.reduceLE, Nat.reduceMul, Nat.reduceMod, evW, fn_eq, evR, Nat.reduceAdd, Nat.reduceLT, Nat.reduceLeDiff, reduceIte, Nat.reduceEqDiff, reduceCtorEq, argEnv, eq_self, if_true, if_false]
        repeat' ((first | rw [guardK_cases] | rw [condK_bool] | rw [guardD_cases]); split <;> simp only [c32_l0, hE, h0', tm2, hb1, hb2, hb3, hol', hlz, hw1, hq1, hqt1.onex, hwy1, hc1, evX, Int.reduceEq, Int.reduceLT, Int.reduceLE, Nat.reduceMul, Nat.reduceMod, evW, evR, Nat.reduceAdd, Nat.reduceLT, Nat.reduceLeDiff, reduceIte, Nat.reduceEqDiff, reduceCtorEq, argEnv, eq_self, if_true, if_false, *])
        refine q_ret ?_; simp only [hpl]; exact ⟨_, _, rfl, by rfl, by rfl⟩
      have hc1 : ¬ ((byte p (a + 1) : Int) < 2) := by omega
      by_cases e2 : byte p (a + 1) % 2 = 1
      · have hpl := pl_bad' p (least := leastOf out) h0 (.inr (.inl e2))
        have hc2 : ((byte p (a + 1) % 2 : Nat) : Int) = 1 := by omega
        simp only [c32_l0, hE, h0', tm2, hb1, hb2, hb3, hol', hlz, hw1, hq1, hqt1.onex, hwy1, hc1, hc2, evX, Int.reduceEq, Int.reduceLT, Int.reduceLE, Nat.reduceMul, Nat.reduceMod, evW, fn_eq, evR, Nat.reduceAdd, Nat.reduceLT, Nat.reduceLeDiff, reduceIte, Nat.reduceEqDiff, reduceCtorEq, argEnv, eq_self, if_true, if_false]
        repeat' ((first | rw [guardK_cases] | rw [condK_bool] | rw [guardD_cases]); split <;> simp only [c32_l0, hE, h0', tm2, hb1, hb2, hb3, hol', hlz, hw1, hq1, hqt1.onex, hwy1, hc1, hc2, evX, Int.reduceEq, Int.reduceLT, Int.reduceLE, Nat.reduceMul, Nat.reduceMod, evW, evR, Nat.reduceAdd, Nat.reduceLT, Nat.reduceLeDiff, reduceIte, Nat.reduceEqDiff, reduceCtorEq, argEnv, eq_self, if_true, if_false, *])
        refine q_ret ?_; simp only [hpl]; exact ⟨_, _, rfl, by rfl, by rfl⟩
      have hc2 : ¬ ((byte p (a + 1) % 2 : Nat) : Int) = 1 := by omega
      have h47 := fun H => f47 (a, byte p (a + 1)) (by show a < 1000000; omega) (by show byte p (a + 1) < 1000000; omega) H
      simp only [rPl] at h47
      by_cases e3 : 128 < a + byte p (a + 1)
      · have hpl := pl_bad' p (least := leastOf out) h0 (.inr (.inr e3))
        have hc3 : 128 < ((a + byte p (a + 1) : Nat) : Int) := by omega
        simp only [c32_l0, hE, h0', tm2, hb1, hb2, hb3, hol', hlz, hw1, hq1, hqt1.onex, hwy1, h47, hc1, hc2, hc3, evX, Int.reduceEq, Int.reduceLT, Int.reduceLE, Nat.reduceMul, Nat.reduceMod, evW, fn_eq, evR, Nat.reduceAdd, Nat.reduceLT, Nat.reduceLeDiff, reduceIte, Nat.reduceEqDiff, reduceCtorEq, argEnv, eq_self, if_true, if_false]
        repeat' ((first | rw [guardK_cases] | rw [condK_bool] | rw [guardD_cases]); split <;> simp only [c32_l0, hE, h0', tm2, hb1, hb2, hb3, hol', hlz, hw1, hq1, hqt1.onex, hwy1, h47, hc1, hc2, hc3, evX, Int.reduceEq, Int.reduceLT, Int.reduceLE, Nat.reduceMul, Nat.reduceMod, evW, evR, Nat.reduceAdd, Nat.reduceLT, Nat.reduceLeDiff, reduceIte, Nat.reduceEqDiff, reduceCtorEq, argEnv, eq_self, if_true, if_false, *])
        refine q_ret ?_; simp only [hpl]; exact ⟨_, _, rfl, by rfl, by rfl⟩
      have hc3 : ¬ (128 < ((a + byte p (a + 1) : Nat) : Int)) := by omega
      have hpl := pl_next p (least := leastOf out) h0 (by omega) (by omega)
      have hap := fun Y v => out_app (hO.more Y) 16 H rfl v
      have hbnd : ((out.map rPl).length + 1) * 16 ≤ reach ∧ (out.map rPl).length + 1 ≤ reach := by simp only [List.length_map, reach]; omega
      have hl2 : leastOf (out ++ [(a, byte p (a + 1))]) = a + byte p (a + 1) + 1 := by simp [leastOf]
      simp only [c32_l0, hE, h0', tm2, hb1, hb2, hb3, hol', hlz, hw1, hq1, hqt1.onex, hwy1, h47, hc1, hc2, hc3, hap, src_ref, hbnd, hq2, hqt2.onex, hwy2, evX, Int.reduceEq, Int.reduceLT, Int.reduceLE, Nat.reduceMul, Nat.reduceMod, evW, fn_eq, evR, Nat.reduceAdd, Nat.reduceLT, Nat.reduceLeDiff, reduceIte, Nat.reduceEqDiff, reduceCtorEq, argEnv, eq_self, if_true, if_false]
      repeat' ((first | rw [guardK_cases] | rw [condK_bool] | rw [guardD_cases]); split <;> simp only [c32_l0, hE, h0', tm2, hb1, hb2, hb3, hol', hlz, hw1, hq1, hqt1.onex, hwy1, h47, hc1, hc2, hc3, hap, src_ref, hbnd, hq2, hqt2.onex, hwy2, evX, Int.reduceEq, Int.reduceLT, Int.reduceLE, Nat.reduceMul, Nat.reduceMod, evW, evR, Nat.reduceAdd, Nat.reduceLT, Nat.reduceLeDiff, reduceIte, Nat.reduceEqDiff, reduceCtorEq, argEnv, eq_self, if_true, if_false, *])
      refine q_next (out ++ [(a, byte p (a + 1))], byte p a, _, _) (by rfl) rfl ⟨hy2, ?_, ?_, by rw [List.map_append]; exact (hO.more _).step (by simp), ?_⟩ ?_ fun r h => ?_
      · rw [List.length_append, List.length_singleton]; omega
      · intro x hx
        rcases List.mem_append.1 hx with hx | hx
        · exact hob x hx
        · simp at hx; subst hx; exact ⟨⟨by show a < 128; omega, hy1⟩, by show 1 ≤ a; omega⟩
      · simp only [hl2, List.length_append, List.length_singleton]; omega
      · simp only [hl2]; omega
      · rw [hpl]
        rw [hl2] at h
        cases hq : pl p (byte p a) (a + byte p (a + 1) + 1) with
        | none => rw [hq] at h; exact h
        | some l => rw [hq] at h; simpa using h
    | some x =>
      have hne : out ≠ [] := by intro h; rw [h] at hgl; cases hgl
      have hpos : 0 < out.length := List.length_pos_iff.2 hne
      have hlz : (0 : Int) < (out.length : Int) := by omega
      have hl0 : leastOf out = x.1 + x.2 + 1 := by simp [leastOf, hgl]
      have hxb := hob x (List.mem_of_getLast? hgl)
      have hwp := wrapP (Nat.lt_succ_self out.length) hpos (by omega)
      have hxi : out[out.length - 1]? = some x := by rw [← List.getLast?_eq_getElem?]; exact hgl
      obtain ⟨_, q3, hq3, hqt3⟩ := hS.get (out.length - 1) (rPl x) (by rw [List.getElem?_map, hxi]; rfl)
      have h47x := fun H => f47 x (by omega) (by omega) H
      have hqa := hqt3.agg (n := 2) rfl
      have hqb := fun Y => hqt3.aggx (n := 2) rfl Y
      simp only [List.append_assoc] at hqb
      by_cases c1 : a < leastOf out
      · have hpl := pl_bad p h0 (.inl c1)
        have hb4 : (a : Int) ≤ ((x.1 + x.2 : Nat) : Int) := by omega
        simp only [c32_l0, hE, h0', tm2, hb1, hb2, hb3, hol', hlz, hwp, hq3, hqa, hqb, h47x, hb4, evX, Int.reduceEq, Int.reduceLT, Int.reduceLE, Nat.reduceMul, Nat.reduceMod, evW, fn_eq, evR, Nat.reduceAdd, Nat.reduceLT, Nat.reduceLeDiff, reduceIte, Nat.reduceEqDiff, reduceCtorEq, argEnv, eq_self, if_true, if_false]
        repeat' ((first | rw [guardK_cases] | rw [condK_bool] | rw [guardD_cases]); split <;> simp only [c32_l0, hE, h0', tm2, hb1, hb2, hb3, hol', hlz, hwp, hq3, hqa, hqb, h47x, hb4, evX, Int.reduceEq, Int.reduceLT, Int.reduceLE, Nat.reduceMul, Nat.reduceMod, evW, evR, Nat.reduceAdd, Nat.reduceLT, Nat.reduceLeDiff, reduceIte, Nat.reduceEqDiff, reduceCtorEq, argEnv, eq_self, if_true, if_false, *])
        refine q_ret ?_; simp only [hpl]; exact ⟨_, X, rfl, by rfl, by rfl⟩
      have hb4 : ¬ (a : Int) ≤ ((x.1 + x.2 : Nat) : Int) := by omega
      obtain ⟨q1, hq1, hqt1⟩ := getB H p (i := a + 1) (by omega)
      obtain ⟨q2, hq2, hqt2⟩ := getB H p (i := a) (by omega)
      have hy1 := hp.byte (a + 1)
      have hy2 := hp.byte a
      have hw1 := wrapA1 (a := a) (by omega)
      have hwy1 := wrapN (byte p (a + 1)) (by omega)
      have hwy2 := wrapN (byte p a) (by omega)
      simp only [rB] at hqt1 hqt2
      by_cases e1 : byte p (a + 1) < 2
      · have hpl := pl_bad' p (least := leastOf out) h0 (.inl e1)
        have hc1 : (byte p (a + 1) : Int) < 2 := by omega
        simp only [c32_l0, hE, h0', tm2, hb1, hb2, hb3, hol', hlz, hwp, hq3, hqa, hqb, h47x, hb4, hw1, hq1, hqt1.onex, hwy1, hc1, evX, Int.reduceEq, Int.reduceLT, Int.reduceLE, Nat.reduceMul, Nat.reduceMod, evW, fn_eq, evR, Nat.reduceAdd, Nat.reduceLT, Nat.reduceLeDiff, reduceIte, Nat.reduceEqDiff, reduceCtorEq, argEnv, eq_self, if_true, if_false]
        repeat' ((first | rw [guardK_cases] | rw [condK_bool] | rw [guardD_cases]); split <;> simp only [c32_l0, hE, h0', tm2, hb1, hb2, hb3, hol', hlz, hwp, hq3, hqa, hqb, h47x, hb4, hw1, hq1, hqt1.onex, hwy1, hc1, evX, Int.reduceEq, Int.reduceLT, Int.reduceLE, Nat.reduceMul, Nat.reduceMod, evW, evR, Nat.reduceAdd, Nat.reduceLT, Nat.reduceLeDiff, reduceIte, Nat.reduceEqDiff, reduceCtorEq, argEnv, eq_self, if_true, if_false, *])
        refine q_ret ?_; simp only [hpl]; exact ⟨_, _, rfl, by rfl, by rfl⟩
      have hc1 : ¬ ((byte p (a + 1) : Int) < 2) := by omega
      by_cases e2 : byte p (a + 1) % 2 = 1
      · have hpl := pl_bad' p (least := leastOf out) h0 (.inr (.inl e2))
        have hc2 : ((byte p (a + 1) % 2 : Nat) : Int) = 1 := by omega
        simp only [c32_l0, hE, h0', tm2, hb1, hb2, hb3, hol', hlz, hwp, hq3, hqa, hqb, h47x, hb4, hw1, hq1, hqt1.onex, hwy1, hc1, hc2, evX, Int.reduceEq, Int.reduceLT, Int.reduceLE, Nat.reduceMul, Nat.reduceMod, evW, fn_eq, evR, Nat.reduceAdd, Nat.reduceLT, Nat.reduceLeDiff, reduceIte, Nat.reduceEqDiff, reduceCtorEq, argEnv, eq_self, if_true, if_false]
        repeat' ((first | rw [guardK_cases] | rw [condK_bool] | rw [guardD_cases]); split <;> simp only [c32_l0, hE, h0', tm2, hb1, hb2, hb3, hol', hlz, hwp, hq3, hqa, hqb, h47x, hb4, hw1, hq1, hqt1.onex, hwy1, hc1, hc2, evX, Int.reduceEq, Int.reduceLT, Int.reduceLE, Nat.reduceMul, Nat.reduceMod, evW, evR, Nat.reduceAdd, Nat.reduceLT, Nat.reduceLeDiff, reduceIte, Nat.reduceEqDiff, reduceCtorEq, argEnv, eq_self, if_true, if_false, *])
        refine q_ret ?_; simp only [hpl]; exact ⟨_, _, rfl, by rfl, by rfl⟩
      have hc2 : ¬ ((byte p (a + 1) % 2 : Nat) : Int) = 1 := by omega
      have h47 := fun H => f47 (a, byte p (a + 1)) (by show a < 1000000; omega) (by show byte p (a + 1) < 1000000; omega) H
      simp only [rPl] at h47
      by_cases e3 : 128 < a + byte p (a + 1)
      · have hpl := pl_bad' p (least := leastOf out) h0 (.inr (.inr e3))
        have hc3 : 128 < ((a + byte p (a + 1) : Nat) : Int) := by omega
        simp only [c32_l0, hE, h0', tm2, hb1, hb2, hb3, hol', hlz, hwp, hq3, hqa, hqb, h47x, hb4, hw1, hq1, hqt1.onex, hwy1, h47, hc1, hc2, hc3, evX, Int.reduceEq, Int.reduceLT, Int.reduceLE, Nat.reduceMul, Nat.reduceMod, evW, fn_eq, evR, Nat.reduceAdd, Nat.reduceLT, Nat.reduceLeDiff, reduceIte, Nat.reduceEqDiff, reduceCtorEq, argEnv, eq_self, if_true, if_false]
        repeat' ((first | rw [guardK_cases] | rw [condK_bool] | rw [guardD_cases]); split <;> simp only [c32_l0, hE, h0', tm2, hb1, hb2, hb3, hol', hlz, hwp, hq3, hqa, hqb, h47x, hb4, hw1, hq1, hqt1.onex, hwy1, h47, hc1, hc2, hc3, evX, Int.reduceEq, Int.reduceLT, Int.reduceLE, Nat.reduceMul, Nat.reduceMod, evW, evR, Nat.reduceAdd, Nat.reduceLT, Nat.reduceLeDiff, reduceIte, Nat.reduceEqDiff, reduceCtorEq, argEnv, eq_self, if_true, if_false, *])
        refine q_ret ?_; simp only [hpl]; exact ⟨_, _, rfl, by rfl, by rfl⟩
      have hc3 : ¬ (128 < ((a + byte p (a + 1) : Nat) : Int)) := by omega
      have hpl := pl_next p (least := leastOf out) h0 (by omega) (by omega)
      have hap := fun Y v => out_app (hO.more Y) 16 H rfl v
      have hbnd : ((out.map rPl).length + 1) * 16 ≤ reach ∧ (out.map rPl).length + 1 ≤ reach := by simp only [List.length_map, reach]; omega
      have hl2 : leastOf (out ++ [(a, byte p (a + 1))]) = a + byte p (a + 1) + 1 := by simp [leastOf]
      simp only [c32_l0, hE, h0', tm2, hb1, hb2, hb3, hol', hlz, hwp, hq3, hqa, hqb, h47x, hb4, hw1, hq1, hqt1.onex, hwy1, h47, hc1, hc2, hc3, hap, src_ref, hbnd, hq2, hqt2.onex, hwy2, evX, Int.reduceEq, Int.reduceLT, Int.reduceLE, Nat.reduceMul, Nat.reduceMod, evW, fn_eq, evR, Nat.reduceAdd, Nat.reduceLT, Nat.reduceLeDiff, reduceIte, Nat.reduceEqDiff, reduceCtorEq, argEnv, eq_self, if_true, if_false]
      repeat' ((first | rw [guardK_cases] | rw [condK_bool] | rw [guardD_cases]); split <;> simp only [c32_l0, hE, h0', tm2, hb1, hb2, hb3, hol', hlz, hwp, hq3, hqa, hqb, h47x, hb4, hw1, hq1, hqt1.onex, hwy1, h47, hc1, hc2, hc3, hap, src_ref, hbnd, hq2, hqt2.onex, hwy2, evX, Int.reduceEq, Int.reduceLT, Int.reduceLE, Nat.reduceMul, Nat.reduceMod, evW, evR, Nat.reduceAdd, Nat.reduceLT, Nat.reduceLeDiff, reduceIte, Nat.reduceEqDiff, reduceCtorEq, argEnv, eq_self, if_true, if_false, *])
      refine q_next (out ++ [(a, byte p (a + 1))], byte p a, _, _) (by rfl) rfl ⟨hy2, ?_, ?_, by rw [List.map_append]; exact (hO.more _).step (by simp), ?_⟩ ?_ fun r h => ?_
      · rw [List.length_append, List.length_singleton]; omega
      · intro x hx
        rcases List.mem_append.1 hx with hx | hx
        · exact hob x hx
        · simp at hx; subst hx; exact ⟨⟨by show a < 128; omega, hy1⟩, by show 1 ≤ a; omega⟩
      · simp only [hl2, List.length_append, List.length_singleton]; omega
      · simp only [hl2]; omega
      · rw [hpl]
        rw [hl2] at h
        cases hq : pl p (byte p a) (a + byte p (a + 1) + 1) with
        | none => rw [hq] at h; exact h
        | some l => rw [hq] at h; simpa using h
theorem f32 (p : List Nat) (hp : Page p) (H : Heap) : ∃ rv X, evFn (evC cprog) itLim c32 [eB p] H = some (.tup [rv, .bool (plAns p).2], H ++ X) ∧ Out H.length 2 55 X rv ((plAns p).1.map rPl) := by
  have h4 := (sB H p).len
  simp only [List.length_map] at h4
  by_cases h128 : p.length = 128
  · have hl1 : ((p.length : Nat) : Int) = 128 := by omega
    obtain ⟨q0, hq0, hqt0⟩ := getB H p (i := 0) (by omega)
    obtain ⟨q1, hq1, hqt1⟩ := getB H p (i := 1) (by omega)
    have hq0 : iaddrK 1 (some (eB p)) (some (.int .i64 0)) = some q0 := hq0
    have hq1 : iaddrK 1 (some (eB p)) (some (.int .i64 1)) = some q1 := hq1
    simp only [rB] at hqt0 hqt1
    by_cases h83 : byte p 1 = 83
    · have h83' : ((byte p 1 : Nat) : Int) = 83 := by omega
      have hlp := l32 p hp h128 H (byte p 0) (hp.byte 0)
      have hw := wrapN (byte p 0) (by have := hp.byte 0; omega)
      simp only [c32, h4, hl1, hq0, hq1, hqt0.one, hqt1.one, h83', hw, evX, Int.reduceEq, Int.reduceLT, Int.reduceLE, Nat.reduceMul, Nat.reduceMod, evW, fn_eq, evR, Nat.reduceAdd, Nat.reduceLT, Nat.reduceLeDiff, reduceIte, Nat.reduceEqDiff, reduceCtorEq, argEnv, eq_self, if_true, if_false]
      repeat' ((first | rw [guardK_cases] | rw [condK_bool] | rw [guardD_cases]); split <;> simp only [c32, h4, hl1, hq0, hq1, hqt0.one, hqt1.one, h83', hw, evX, Int.reduceEq, Int.reduceLT, Int.reduceLE, Nat.reduceMul, Nat.reduceMod, evW, evR, Nat.reduceAdd, Nat.reduceLT, Nat.reduceLeDiff, reduceIte, Nat.reduceEqDiff, reduceCtorEq, argEnv, eq_self, if_true, if_false, *])
      generalize hz : itLim _ _ = z
      obtain ⟨T, X, h⟩ := hlp _ (by rfl) rfl z hz
      cases hq : pl p (byte p 0) 2 with
      | some l =>
        have ha : plAns p = (l, true) := by simp [plAns, plOf, h128, h83, hq]
        rw [hq] at h
        obtain ⟨rfl, rv, hT, hO⟩ := h
        rw [ha]
        simp only [hT, out_tup hO, evX, Int.reduceEq, Int.reduceLT, Int.reduceLE, Nat.reduceMul, Nat.reduceMod, evW, fn_eq, evR, Nat.reduceAdd, Nat.reduceLT, Nat.reduceLeDiff, reduceIte, Nat.reduceEqDiff, reduceCtorEq, argEnv, eq_self, if_true, if_false]
        repeat' ((first | rw [guardK_cases] | rw [condK_bool] | rw [guardD_cases]); split <;> simp only [hT, out_tup hO, evX, Int.reduceEq, Int.reduceLT, Int.reduceLE, Nat.reduceMul, Nat.reduceMod, evW, evR, Nat.reduceAdd, Nat.reduceLT, Nat.reduceLeDiff, reduceIte, Nat.reduceEqDiff, reduceCtorEq, argEnv, eq_self, if_true, if_false, *])
        exact ⟨rv, X, rfl, hO⟩
      | none =>
        have ha : plAns p = ([], false) := by simp [plAns, plOf, hq]
        rw [hq] at h
        obtain ⟨rfl, hT1, hT2⟩ := h
        rw [ha]
        simp only [hT1, hT2, evX, Int.reduceEq, Int.reduceLT, Int.reduceLE, Nat.reduceMul, Nat.reduceMod, evW, fn_eq, evR, Nat.reduceAdd, Nat.reduceLT, Nat.reduceLeDiff, reduceIte, Nat.reduceEqDiff, reduceCtorEq, argEnv, eq_self, if_true, if_false]
        repeat' ((first | rw [guardK_cases] | rw [condK_bool] | rw [guardD_cases]); split <;> simp only [hT1, hT2, evX, Int.reduceEq, Int.reduceLT, Int.reduceLE, Nat.reduceMul, Nat.reduceMod, evW, evR, Nat.reduceAdd, Nat.reduceLT, Nat.reduceLeDiff, reduceIte, Nat.reduceEqDiff, reduceCtorEq, argEnv, eq_self, if_true, if_false, *])
        exact ⟨.nils, X, rfl, .nils ..⟩
    · have h83' : ¬ ((byte p 1 : Nat) : Int) = 83 := by omega
      have ha : plAns p = ([], false) := by simp [plAns, plOf, h83]
      rw [ha]
      simp only [c32, h4, hl1, hq1, hqt1.one, h83', evX, Int.reduceEq, Int.reduceLT, Int.reduceLE, Nat.reduceMul, Nat.reduceMod, evW, fn_eq, evR, Nat.reduceAdd, Nat.reduceLT, Nat.reduceLeDiff, reduceIte, Nat.reduceEqDiff, reduceCtorEq, argEnv, eq_self, if_true, if_false]
      repeat' ((first | rw [guardK_cases] | rw [condK_bool] | rw [guardD_cases]); split <;> simp only [c32, h4, hl1, hq1, hqt1.one, h83', evX, Int.reduceEq, Int.reduceLT, Int.reduceLE, Nat.reduceMul, Nat.reduceMod, evW, evR, Nat.reduceAdd, Nat.reduceLT, Nat.reduceLeDiff, reduceIte, Nat.reduceEqDiff, reduceCtorEq, argEnv, eq_self, if_true, if_false, *])
      exact ⟨.nils, [], by simp, .nils ..⟩
  · have hl1 : ¬ ((p.length : Nat) : Int) = 128 := by omega
    have ha : plAns p = ([], false) := by simp [plAns, plOf, h128]
    rw [ha]
    simp only [c32, h4, hl1, evX, Int.reduceEq, Int.reduceLT, Int.reduceLE, Nat.reduceMul, Nat.reduceMod, evW, fn_eq, evR, Nat.reduceAdd, Nat.reduceLT, Nat.reduceLeDiff, reduceIte, Nat.reduceEqDiff, reduceCtorEq, argEnv, eq_self, if_true, if_false]
    repeat' ((first | rw [guardK_cases] | rw [condK_bool] | rw [guardD_cases]); split <;> simp only [c32, h4, hl1, evX, Int.reduceEq, Int.reduceLT, Int.reduceLE, Nat.reduceMul, Nat.reduceMod, evW, evR, Nat.reduceAdd, Nat.reduceLT, Nat.reduceLeDiff, reduceIte, Nat.reduceEqDiff, reduceCtorEq, argEnv, eq_self, if_true, if_false, *])
    exact ⟨.nils, [], by simp, .nils ..⟩
/-- the reading, frozen -/
theorem f32F (p : List Nat) (hp : Page p) (H : Heap) : cal (evC cprog) true 32 [eB p] H = some (.tup [ePl (plAns p).1, .bool (plAns p).2], H) := by
  obtain ⟨rv, X, h, hO⟩ := f32 p hp H
  rw [cal_of at32, h]
  exact fz_plsB hO _
end Go.Proofs.Ythgcnlmmgilhjaa.Code

/- page: the heads of free places, written. -/
set_option linter.unusedSimpArgs false
set_option linter.unusedVariables false
namespace Go.Proofs.Ythgcnlmmgilhjaa.Code
open Go.Proofs.Ythgcnlmmgilhjaa.Ev

/-- one place's head, written ahead of the others -/
def head1 (q : List Nat) (x : Pl) : List Nat := ((q.set x.1 (byte q 0)).set (x.1 + 1) x.2).set 0 x.1
/-- the heads of free places, written -/
def chainB (q : List Nat) (l : List Pl) : List Nat := l.foldr (fun x q => head1 q x) (q.set 0 0)
theorem chainB_len (q : List Nat) (l : List Pl) : (chainB q l).length = q.length := by
  unfold chainB
  induction l with
  | nil => simp
  | cons x l ih => simp only [List.foldr_cons, head1, List.length_set]; exact ih
def bP (v : Nat) (q : List Nat) : Blk := ⟨v, true, 5, 1, q.map rB⟩
theorem mapSet (q : List Nat) (n m : Nat) : (q.map rB).set n [.int .u8 (m : Int)] = (q.set n m).map rB := by rw [List.map_set]; rfl
theorem rowB (q : List Nat) {n : Nat} (h : n < q.length) : (q.map rB)[n]? = some [.int .u8 (byte q n : Int)] := byteAt q h
theorem wrapU {n : Nat} (h : n < 256) : IntKind.u8.wrap (n : Int) = (n : Int) := by
  simp [IntKind.wrap, IntKind.bits, IntKind.signed]; omega
structure PageAt (H : Heap) (bp v : Nat) (q : List Nat) : Prop where
  at' : H[bp]? = some (bP v q)
  len : q.length = 128
  lt : bp < H.length
section
variable {H : Heap} {bp : Nat}
theorem set_at (hlt : bp < H.length) (B : Blk) (Y : Heap) : (H.set bp B ++ Y)[bp]? = some B := by
  rw [List.getElem?_append_left (by simpa using hlt), List.getElem?_set_self hlt]
theorem set_far (B : Blk) (Y : Heap) (k : Nat) : (H.set bp B ++ Y)[H.length + k]? = Y[k]? := by
  have := at_app (H.set bp B) Y k
  rwa [List.length_set] at this
theorem set_far0 (B : Blk) (Y : Heap) : (H.set bp B ++ Y)[H.length]? = Y[0]? := set_far B Y 0
theorem set_set (hlt : bp < H.length) (B B' : Blk) (Y : Heap) : (H.set bp B ++ Y).set bp B' = H.set bp B' ++ Y := by
  rw [List.set_append_left _ _ (by simpa using hlt), List.set_set]
theorem set_tail (B : Blk) (Y : Heap) (k : Nat) (x : Blk) : (H.set bp B ++ Y).set (H.length + k) x = H.set bp B ++ Y.set k x := by
  have := set_app (H.set bp B) Y k x
  rwa [List.length_set] at this
end
/-- what stays, whatever is written into a block -/
def Beside (H : Heap) (bp sz : Nat) (lv : AV) (rows : List (List AV)) : Prop := ∀ B X, SlAt (H.set bp B ++ X) sz lv rows
theorem l35 (H : Heap) (bp v : Nat) (q : List Nat) (hp : PageAt H bp v q) (lv : AV) (l : List Pl) (hl : Beside H bp 2 lv (l.map rPl)) (hll : l.length < 1000000) (hb : ∀ x ∈ l, x.1 ≤ 126 ∧ x.2 < 256) (hq0 : q.length = 128) (st : St)
    (hE : keepEnv st.1 [0, 1, 4] = [(0, .ref bp v 1 0 128), (1, lv), (4, .int .i64 ((l.length : Int) - 1))]) (hH : st.2 = H.set bp (bP v (q.set 0 0))) (z : Option (CX × St)) (hz : itLim (evCode (evC cprog) itLim c35_l0) st = z) :
    ∃ T X, z = some (.exit 0, T, H.set bp (bP v (chainB q l)) ++ X) := by
  have L := loop_rule (σ := Nat × Heap) (m := [0, 1, 4]) (env := fun i => [(0, .ref bp v 1 0 128), (1, lv), (4, .int .i64 ((i.1 : Int) - 1))]) (hp := fun i => H.set bp (bP v (chainB q (l.drop i.1))) ++ i.2)
    (P := fun i r => ∃ T X, r = (.exit 0, T, H.set bp (bP v (chainB q l)) ++ X))
    (mu := fun i => i.1) (I := fun i => i.1 ≤ l.length) (evCode (evC cprog) itLim c35_l0) ?_ (l.length, []) st (Nat.le_refl _) hE (by rw [hH, List.drop_length, List.append_nil]; rfl) z hz
  · obtain ⟨r, rfl, T, X, rfl⟩ := L
    exact ⟨T, X, rfl⟩
  · intro ⟨k, X⟩ hk E hE
    simp only at hk hE ⊢
    cases k with
    | zero =>
      have h0 : ¬ (0 : Int) ≤ ((0 : Nat) : Int) - 1 := by omega
      simp only [c35_l0, hE, h0, evX, Int.reduceEq, Int.reduceLT, Int.reduceLE, Nat.reduceMul, Nat.reduceMod, evW, fn_eq, evR, Nat.reduceAdd, Nat.reduceLT, Nat.reduceLeDiff, reduceIte, Nat.reduceEqDiff, reduceCtorEq, argEnv, eq_self, if_true, if_false]
      repeat' ((first | rw [guardK_cases] | rw [condK_bool] | rw [guardD_cases]); split <;> simp only [c35_l0, hE, h0, evX, Int.reduceEq, Int.reduceLT, Int.reduceLE, Nat.reduceMul, Nat.reduceMod, evW, evR, Nat.reduceAdd, Nat.reduceLT, Nat.reduceLeDiff, reduceIte, Nat.reduceEqDiff, reduceCtorEq, argEnv, eq_self, if_true, if_false, *])
      exact q_exit ⟨_, X, rfl⟩
    | succ k =>
      have hlt : k < l.length := by omega
      obtain ⟨x, hx⟩ : ∃ x, l[k]? = some x := ⟨_, List.getElem?_eq_getElem hlt⟩
      have hd : l.drop k = x :: l.drop (k + 1) := by
        rw [List.drop_eq_getElem_cons hlt]
        rw [List.getElem?_eq_getElem hlt] at hx
        cases hx; rfl
      obtain ⟨hb1, hb2⟩ := hb x (List.mem_of_getElem? hx)
      have e1 : ((k + 1 : Nat) : Int) - 1 = (k : Int) := by omega
      have h0 : (0 : Int) ≤ (k : Int) := by omega
      have hcl := chainB_len q (l.drop (k + 1))
      have hnext : chainB q (l.drop k) = head1 (chainB q (l.drop (k + 1))) x := by rw [hd]; rfl
      generalize chainB q (l.drop (k + 1)) = c at *
      have hSl := hl (bP v c) X
      obtain ⟨_, p, hpp, hat⟩ := hSl.get k (rPl x) (by rw [List.getElem?_map, hx]; rfl)
      have hwk : IntKind.i64.wrap ((k : Int) - 1) = (k : Int) - 1 := wrap_i64 (by omega) (by omega)
      have r0 := rowB c (n := 0) (by omega)
      have r1 := rowB c (n := x.1) (by omega)
      have r2 := rowB (c.set x.1 (byte c 0)) (n := x.1 + 1) (by simp; omega)
      have r3 := rowB ((c.set x.1 (byte c 0)).set (x.1 + 1) x.2) (n := 0) (by simp; omega)
      have hw1 := wrapA1 (a := x.1) (by omega)
      have hu1 := wrapU (n := x.1) (by omega)
      have hu2 := wrapU (n := x.2) (by omega)
      have hx1 : x.1 < 128 := by omega
      have hx2 : x.1 + 1 < 128 := by omega
      have hqa := hat.agg (n := 2) rfl
      rw [e1] at hE
      simp only [bP] at *
      simp only [c35_l0, hE, h0, hpp, hqa, rPl, hp.lt, set_at hp.lt, set_far, set_far0, set_set hp.lt, set_tail, List.length_set, r0, r1, r2, r3, mapSet, hw1, hu1, hu2, hx1, hx2, hwk, evX, Int.reduceEq, Int.reduceLT, Int.reduceLE, Nat.reduceMul, Nat.reduceMod, evW, fn_eq, evR, Nat.reduceAdd, Nat.reduceLT, Nat.reduceLeDiff, reduceIte, Nat.reduceEqDiff, reduceCtorEq, argEnv, eq_self, if_true, if_false]
      repeat' ((first | rw [guardK_cases] | rw [condK_bool] | rw [guardD_cases]); split <;> simp only [c35_l0, hE, h0, hpp, hqa, rPl, hp.lt, set_at hp.lt, set_far, set_far0, set_set hp.lt, set_tail, List.length_set, r0, r1, r2, r3, mapSet, hw1, hu1, hu2, hx1, hx2, hwk, evX, Int.reduceEq, Int.reduceLT, Int.reduceLE, Nat.reduceMul, Nat.reduceMod, evW, evR, Nat.reduceAdd, Nat.reduceLT, Nat.reduceLeDiff, reduceIte, Nat.reduceEqDiff, reduceCtorEq, argEnv, eq_self, if_true, if_false, *])
      exact q_next (k, X ++ [⟨0, true, 55, 2, [[.int .i64 (x.1 : Int), .int .i64 (x.2 : Int)]]⟩]) (by rfl) (by simp only [hnext, head1]) (by omega) (by simp only; omega) (fun r h => h)
theorem f35 (H : Heap) (bp v : Nat) (q : List Nat) (hp : PageAt H bp v q) (lv : AV) (l : List Pl) (hl : Beside H bp 2 lv (l.map rPl)) (hlen : lenK false (some lv) = some (.int .i64 (l.length : Int))) (hll : l.length < 1000000) (hb : ∀ x ∈ l, x.1 ≤ 126 ∧ x.2 < 256) :
    ∃ X, cal (evC cprog) false 35 [.ref bp v 1 0 128, lv] H = some (.tup [], H.set bp (bP v (chainB q l)) ++ X) := by
  have r0 := rowB q (n := 0) (by have := hp.len; omega)
  have hat : ∀ X, (H ++ X)[bp]? = some (bP v q) := fun X => by rw [List.getElem?_append_left hp.lt]; exact hp.at'
  have hat0 : H[bp]? = some (bP v q) := hp.at'
  have hwk : IntKind.i64.wrap ((l.length : Int) - 1) = (l.length : Int) - 1 := wrap_i64 (by omega) (by omega)
  have hlp := l35 H bp v q hp lv l hl hll hb hp.len
  rw [cal_of at35]
  suffices h : ∃ X, evFn (evC cprog) itLim c35 [.ref bp v 1 0 128, lv] H = some (.tup [], H.set bp (bP v (chainB q l)) ++ X) by
    obtain ⟨X, h⟩ := h
    rw [h, calK_f]
    rcases gc_or H (.tup []) (H.set bp (bP v (chainB q l)) ++ X) with h | ⟨h, ht⟩
    · exact ⟨X, by rw [h]⟩
    · refine ⟨[], ?_⟩
      rw [h, List.append_nil]
      rw [List.take_append_of_le_length (by simp), List.take_of_length_le (by simp)] at ht
      rw [ht]
  have hm0 : (q.map rB).set 0 [.int .u8 0] = (q.set 0 0).map rB := mapSet q 0 0
  simp only [bP] at *
  simp only [c35, hat0, hlen, r0, hm0, hwk, evX, Int.reduceEq, Int.reduceLT, Int.reduceLE, Nat.reduceMul, Nat.reduceMod, evW, fn_eq, evR, Nat.reduceAdd, Nat.reduceLT, Nat.reduceLeDiff, reduceIte, Nat.reduceEqDiff, reduceCtorEq, argEnv, eq_self, if_true, if_false]
  repeat' ((first | rw [guardK_cases] | rw [condK_bool] | rw [guardD_cases]); split <;> simp only [c35, hat0, hlen, r0, hm0, hwk, evX, Int.reduceEq, Int.reduceLT, Int.reduceLE, Nat.reduceMul, Nat.reduceMod, evW, evR, Nat.reduceAdd, Nat.reduceLT, Nat.reduceLeDiff, reduceIte, Nat.reduceEqDiff, reduceCtorEq, argEnv, eq_self, if_true, if_false, *])
  generalize hz : itLim _ _ = z
  obtain ⟨T, X, rfl⟩ := hlp _ (by rfl) (by rfl) z hz
  simp only [evX, Int.reduceEq, Int.reduceLT, Int.reduceLE, Nat.reduceMul, Nat.reduceMod, evW, fn_eq, evR, Nat.reduceAdd, Nat.reduceLT, Nat.reduceLeDiff, reduceIte, Nat.reduceEqDiff, reduceCtorEq, argEnv, eq_self, if_true, if_false]
  repeat' ((first | rw [guardK_cases] | rw [condK_bool] | rw [guardD_cases]); split <;> simp only [evX, Int.reduceEq, Int.reduceLT, Int.reduceLE, Nat.reduceMul, Nat.reduceMod, evW, evR, Nat.reduceAdd, Nat.reduceLT, Nat.reduceLeDiff, reduceIte, Nat.reduceEqDiff, reduceCtorEq, argEnv, eq_self, if_true, if_false, *])
  exact ⟨X, rfl⟩
end Go.Proofs.Ythgcnlmmgilhjaa.Code

/- page: places, how much is free, the greatest. -/
set_option linter.unusedSimpArgs false
set_option linter.unusedVariables false
namespace Go.Proofs.Ythgcnlmmgilhjaa.Code
open Go.Proofs.Ythgcnlmmgilhjaa.Ev

theorem pl_len (p : List Nat) : ∀ (k a least : Nat) (l : List Pl), 130 - least ≤ k → pl p a least = some l → l.length ≤ k
  | k, a, least, l, hk, h => by
    by_cases h0 : a = 0
    · subst h0; rw [pl_zero] at h; cases h; simp
    · by_cases h1 : a < least ∨ a % 2 = 1 ∨ 126 < a
      · rw [pl_bad p h0 h1] at h; cases h
      · by_cases h2 : byte p (a + 1) < 2 ∨ byte p (a + 1) % 2 = 1 ∨ 128 < a + byte p (a + 1)
        · rw [pl_bad' p h0 h2] at h; cases h
        · rw [pl_next p h0 h1 h2] at h
          cases hq : pl p (byte p a) (a + byte p (a + 1) + 1) with
          | none => rw [hq] at h; cases h
          | some l' =>
            rw [hq] at h
            cases h
            cases k with
            | zero => omega
            | succ k =>
              have := pl_len p k _ _ l' (by omega) hq
              simp only [List.length_cons]; omega
theorem ans_len (p : List Nat) : (plAns p).1.length ≤ 130 := by
  unfold plAns plOf
  split
  · rename_i l h
    split at h
    · exact pl_len p 130 _ _ l (by omega) h
    · cases h
  · simp
/-- what Places answers -/
def placesAns (p : List Nat) : List Pl × Int := if (plAns p).2 = true then ((plAns p).1, 0) else ([], 70)
def sumW (l : List Pl) : Int := l.foldl (fun s x => IntKind.i64.wrap (s + (x.2 : Int))) 0
def maxW (l : List Pl) : Int := l.foldl (fun s x => max s (x.2 : Int)) 0
theorem sum_take (l : List Pl) {i : Nat} {x : Pl} (h : l[i]? = some x) : sumW (l.take (i + 1)) = IntKind.i64.wrap (sumW (l.take i) + (x.2 : Int)) := by
  unfold sumW; rw [List.take_add_one, h, List.foldl_append]; rfl
theorem max_take (l : List Pl) {i : Nat} {x : Pl} (h : l[i]? = some x) : maxW (l.take (i + 1)) = max (maxW (l.take i)) (x.2 : Int) := by
  unfold maxW; rw [List.take_add_one, h, List.foldl_append]; rfl
theorem f34 (l : List Pl) (hl : l.length < 1000000) (H : Heap) : cal (evC cprog) false 34 [ePl l] H = some (.tup [.int .i64 (sumW l), .int .i64 (maxW l)], H) := by
  have hln := (sPl H l).len
  simp only [List.length_map] at hln
  rw [cal_of at34]
  simp only [c34, hln, evX, Int.reduceEq, Int.reduceLT, Int.reduceLE, Nat.reduceMul, Nat.reduceMod, evW, fn_eq, evR, Nat.reduceAdd, Nat.reduceLT, Nat.reduceLeDiff, reduceIte, Nat.reduceEqDiff, reduceCtorEq, argEnv, eq_self, if_true, if_false]
  repeat' ((first | rw [guardK_cases] | rw [condK_bool] | rw [guardD_cases]); split <;> simp only [c34, hln, evX, Int.reduceEq, Int.reduceLT, Int.reduceLE, Nat.reduceMul, Nat.reduceMod, evW, evR, Nat.reduceAdd, Nat.reduceLT, Nat.reduceLeDiff, reduceIte, Nat.reduceEqDiff, reduceCtorEq, argEnv, eq_self, if_true, if_false, *])
  generalize hz : itLim _ _ = z
  rcases all_rule l (fun _ => true) [2, 3, 6, 7, 8] (fun i => [(2, .int .i64 (sumW (l.take i))), (3, .int .i64 (maxW (l.take i))), (6, ePl l), (7, .int .i64 (l.length : Int)), (8, .int .i64 (i : Int))]) H [] (evCode (evC cprog) itLim c34_l0) (fun x T => x = .exit 0 ∧ keepEnv T [2, 3] = [(2, .int .i64 (sumW l)), (3, .int .i64 (maxW l))]) (fun _ _ => False)
    (fun i x hx E G hE => by
      have hlt : i < l.length := (List.getElem?_eq_some_iff.1 hx).1
      have hi : (i : Int) < (l.length : Int) := by omega
      obtain ⟨_, p, hp, hat⟩ := (sPl H l).get i (rPl x) (by rw [List.getElem?_map, hx]; rfl)
      have hs := sum_take l hx
      have hm := max_take l hx
      have hqa := hat.aggx (n := 2) rfl
      simp only [c34_l0, hE, hi, hp, hqa, rPl, ← hs, ← hm, wrapS hlt (by omega : l.length < 9223372036854775807), evX, Int.reduceEq, Int.reduceLT, Int.reduceLE, Nat.reduceMul, Nat.reduceMod, evW, fn_eq, evR, Nat.reduceAdd, Nat.reduceLT, Nat.reduceLeDiff, reduceIte, Nat.reduceEqDiff, reduceCtorEq, argEnv, eq_self, if_true, if_false]
      repeat' ((first | rw [guardK_cases] | rw [condK_bool] | rw [guardD_cases]); split <;> simp only [c34_l0, hE, hi, hp, hqa, rPl, ← hs, ← hm, wrapS hlt (by omega : l.length < 9223372036854775807), evX, Int.reduceEq, Int.reduceLT, Int.reduceLE, Nat.reduceMul, Nat.reduceMod, evW, evR, Nat.reduceAdd, Nat.reduceLT, Nat.reduceLeDiff, reduceIte, Nat.reduceEqDiff, reduceCtorEq, argEnv, eq_self, if_true, if_false, *])
      exact Sc.next (K := []) rfl (by rfl))
    (fun E G hE => by
      simp only [c34_l0, hE, Int.lt_irrefl, List.take_length, evX, Int.reduceEq, Int.reduceLT, Int.reduceLE, Nat.reduceMul, Nat.reduceMod, evW, fn_eq, evR, Nat.reduceAdd, Nat.reduceLT, Nat.reduceLeDiff, reduceIte, Nat.reduceEqDiff, reduceCtorEq, argEnv, eq_self, if_true, if_false]
      repeat' ((first | rw [guardK_cases] | rw [condK_bool] | rw [guardD_cases]); split <;> simp only [c34_l0, hE, Int.lt_irrefl, List.take_length, evX, Int.reduceEq, Int.reduceLT, Int.reduceLE, Nat.reduceMul, Nat.reduceMod, evW, evR, Nat.reduceAdd, Nat.reduceLT, Nat.reduceLeDiff, reduceIte, Nat.reduceEqDiff, reduceCtorEq, argEnv, eq_self, if_true, if_false, *])
      exact .exit (K := []) ⟨rfl, by rfl⟩) _ [] (by rfl) (by simp) z hz with ⟨_, x, T, G, rfl, _, rfl, hT⟩ | ⟨h, _⟩
  · simp only [hT, evX, Int.reduceEq, Int.reduceLT, Int.reduceLE, Nat.reduceMul, Nat.reduceMod, evW, fn_eq, evR, Nat.reduceAdd, Nat.reduceLT, Nat.reduceLeDiff, reduceIte, Nat.reduceEqDiff, reduceCtorEq, argEnv, eq_self, if_true, if_false]
    repeat' ((first | rw [guardK_cases] | rw [condK_bool] | rw [guardD_cases]); split <;> simp only [hT, evX, Int.reduceEq, Int.reduceLT, Int.reduceLE, Nat.reduceMul, Nat.reduceMod, evW, evR, Nat.reduceAdd, Nat.reduceLT, Nat.reduceLeDiff, reduceIte, Nat.reduceEqDiff, reduceCtorEq, argEnv, eq_self, if_true, if_false, *])
  · rw [List.all_eq_false] at h
    obtain ⟨_, _, h⟩ := h
    exact absurd rfl h
theorem f11 (p : List Nat) (hp : Page p) (H : Heap) : cal (evC cprog) false 11 [eB p] H = some (.tup [.int .i64 (sumW (placesAns p).1), .int .i64 (placesAns p).2], H) := by
  have h32 := fun H => f32F p hp H
  have h34 := fun H => f34 (plAns p).1 (by have := ans_len p; omega) H
  rw [cal_of at11]
  cases hok : (plAns p).2 with
  | true =>
    have ha : placesAns p = ((plAns p).1, 0) := by simp [placesAns, hok]
    rw [ha]
    simp only [hok] at h32
    simp only [c11, h32, h34, evX, Int.reduceEq, Int.reduceLT, Int.reduceLE, Nat.reduceMul, Nat.reduceMod, evW, fn_eq, evR, Nat.reduceAdd, Nat.reduceLT, Nat.reduceLeDiff, reduceIte, Nat.reduceEqDiff, reduceCtorEq, argEnv, eq_self, if_true, if_false]
    repeat' ((first | rw [guardK_cases] | rw [condK_bool] | rw [guardD_cases]); split <;> simp only [c11, h32, h34, evX, Int.reduceEq, Int.reduceLT, Int.reduceLE, Nat.reduceMul, Nat.reduceMod, evW, evR, Nat.reduceAdd, Nat.reduceLT, Nat.reduceLeDiff, reduceIte, Nat.reduceEqDiff, reduceCtorEq, argEnv, eq_self, if_true, if_false, *])
  | false =>
    have ha : placesAns p = ([], 70) := by simp [placesAns, hok]
    rw [ha]
    simp only [hok] at h32
    simp only [c11, h32, evX, Int.reduceEq, Int.reduceLT, Int.reduceLE, Nat.reduceMul, Nat.reduceMod, evW, fn_eq, evR, Nat.reduceAdd, Nat.reduceLT, Nat.reduceLeDiff, reduceIte, Nat.reduceEqDiff, reduceCtorEq, argEnv, eq_self, if_true, if_false]
    repeat' ((first | rw [guardK_cases] | rw [condK_bool] | rw [guardD_cases]); split <;> simp only [c11, h32, evX, Int.reduceEq, Int.reduceLT, Int.reduceLE, Nat.reduceMul, Nat.reduceMod, evW, evR, Nat.reduceAdd, Nat.reduceLT, Nat.reduceLeDiff, reduceIte, Nat.reduceEqDiff, reduceCtorEq, argEnv, eq_self, if_true, if_false, *])
    rfl
theorem f13 (p : List Nat) (hp : Page p) (H : Heap) : cal (evC cprog) false 13 [eB p] H = some (.bool (plAns p).2, H) := by
  have h32 := fun H => f32F p hp H
  rw [cal_of at13]
  simp only [c13, h32, evX, Int.reduceEq, Int.reduceLT, Int.reduceLE, Nat.reduceMul, Nat.reduceMod, evW, fn_eq, evR, Nat.reduceAdd, Nat.reduceLT, Nat.reduceLeDiff, reduceIte, Nat.reduceEqDiff, reduceCtorEq, argEnv, eq_self, if_true, if_false]
  repeat' ((first | rw [guardK_cases] | rw [condK_bool] | rw [guardD_cases]); split <;> simp only [c13, h32, evX, Int.reduceEq, Int.reduceLT, Int.reduceLE, Nat.reduceMul, Nat.reduceMod, evW, evR, Nat.reduceAdd, Nat.reduceLT, Nat.reduceLeDiff, reduceIte, Nat.reduceEqDiff, reduceCtorEq, argEnv, eq_self, if_true, if_false, *])
end Go.Proofs.Ythgcnlmmgilhjaa.Code

/- page: the document's sums; lists of places compared; the empty page. -/
set_option linter.unusedSimpArgs false
set_option linter.unusedVariables false
namespace Go.Proofs.Ythgcnlmmgilhjaa.Code
open Go.Proofs.Ythgcnlmmgilhjaa.Ev

end Go.Proofs.Ythgcnlmmgilhjaa.Code

/- page: the empty page; Awake; the law PagePlaces. -/
set_option linter.unusedSimpArgs false
set_option linter.unusedVariables false
namespace Go.Proofs.Ythgcnlmmgilhjaa.Code
open Go.Proofs.Ythgcnlmmgilhjaa.Ev

theorem awake_run : evCall cprog 400 8 [] [] = some (.bool true, []) := by kernel_rfl
theorem closed_any {call it} {c : CFn} {b : Bool} (hc : c.closed = true) (h : evFn call it c [] [] = some (.bool b, [])) (H : Heap) : evFn call it c [] H = some (.bool b, H) := by
  unfold evFn at h ⊢
  rw [if_pos hc] at h ⊢
  simp only at h ⊢
  split at h
  · cases h; rfl
  · cases h
theorem f8 (H : Heap) : cal (evC cprog) false 8 [] H = some (.bool true, H) := by
  have h := evC_of awake_run
  rw [evC_fn at8] at h
  rw [cal_of at8, closed_any rfl h H, calK_f, gc_same]
/-- the page with one free place -/
def fmt0 : List Nat := (List.replicate 128 0).set 1 83
def fmt : List Nat := ((fmt0.set 0 2).set 2 0).set 3 126
theorem mks128 (H : Heap) : mksK 5 1 1 [.int .u8 0] H (some (.int .i64 128)) (some (.int .i64 128)) = some (.ref H.length 0 1 0 128, H ++ [⟨0, true, 5, 1, (List.replicate 128 0).map rB⟩]) := by
  have h : asNat (.int .i64 128) = some 128 := rfl
  simp only [mksK, h]
  rw [if_pos (by decide), List.map_replicate]
  rfl
theorem fz_page {H X : Heap} {v : Nat} (q : List Nat) (hq : q.length = 128) : calK true H (some (.ref H.length v 1 0 128, H ++ (bP v q :: X))) = some (eB q, H) := by
  have hO : Out H.length 1 5 (bP v q :: X) (.ref H.length v 1 0 128) (q.map rB) := .inr ⟨by intro h; rw [List.map_eq_nil_iff] at h; rw [h] at hq; simp at hq, 0, v, by simp [hq], rfl⟩
  obtain ⟨ids, h1, h2⟩ := fz_out hO H rfl (fun r hr a ha => by
    obtain ⟨n, _, rfl⟩ := List.mem_map.1 hr
    simp [rB] at ha
    subst ha
    exact ⟨rfl, fun m H => rfl⟩) 6
  exact calK_frz (ids := ids) h1 rfl (by simp) h2
theorem f20 (H : Heap) : cal (evC cprog) true 20 [] H = some (eB fmt, H) := by
  have r1 := rowB (List.replicate 128 0) (n := 1) (by simp)
  have m1 : ((List.replicate 128 0).map rB).set 1 [.int .u8 83] = fmt0.map rB := mapSet _ 1 83
  obtain ⟨X, h35⟩ := f35 (H ++ [bP 0 fmt0, ⟨0, true, 55, 2, [[.int .i64 2, .int .i64 126]]⟩]) H.length 0 fmt0 ⟨by simp, by decide +kernel, by simp⟩ (.ref (H.length + 1) 0 2 0 1) [(2, 126)] (fun B X => by
      refine .ref (k := ⟨0, true, 55, 2, [[.int .i64 2, .int .i64 126]]⟩) (rows := [[.int .i64 2, .int .i64 126]]) ?_ fun i row hi => ?_
      · have : (H ++ [bP 0 fmt0, ⟨0, true, 55, 2, [[.int .i64 2, .int .i64 126]]⟩]).set H.length B = H ++ [B, ⟨0, true, 55, 2, [[.int .i64 2, .int .i64 126]]⟩] := by simp
        rw [this]
        simp [curBlk]
      · rw [Nat.zero_add]
        refine ⟨?_, hi⟩
        have := List.mem_of_getElem? hi
        simp at this
        rw [this]; rfl) rfl (by simp) (by simp)
  have hc : chainB fmt0 [(2, 126)] = fmt := by decide +kernel
  have hset : (H ++ [bP 0 fmt0, ⟨0, true, 55, 2, [[.int .i64 2, .int .i64 126]]⟩]).set H.length (bP 0 (chainB fmt0 [(2, 126)])) ++ X = H ++ (bP 0 fmt :: ⟨0, true, 55, 2, [[.int .i64 2, .int .i64 126]]⟩ :: X) := by rw [hc]; simp
  rw [hset] at h35
  rw [cal_of at20]
  simp only [bP] at h35
  simp only [c20, mks128, r1, m1, h35, evX, Int.reduceEq, Int.reduceLT, Int.reduceLE, Nat.reduceMul, Nat.reduceMod, evW, fn_eq, evR, Nat.reduceAdd, Nat.reduceLT, Nat.reduceLeDiff, reduceIte, Nat.reduceEqDiff, reduceCtorEq, argEnv, eq_self, if_true, if_false]
  repeat' ((first | rw [guardK_cases] | rw [condK_bool] | rw [guardD_cases]); split <;> simp only [c20, mks128, r1, m1, h35, evX, Int.reduceEq, Int.reduceLT, Int.reduceLE, Nat.reduceMul, Nat.reduceMod, evW, evR, Nat.reduceAdd, Nat.reduceLT, Nat.reduceLeDiff, reduceIte, Nat.reduceEqDiff, reduceCtorEq, argEnv, eq_self, if_true, if_false, *])
  exact fz_page (v := 0) fmt (by decide +kernel)
def strB (p : List Nat) : ByteArray := ⟨(p.map UInt8.ofNat).toArray⟩
theorem rowBytes_B : ∀ p : List Nat, rowBytes (p.map rB) = some (p.map UInt8.ofNat)
  | [] => rfl
  | n :: p => by simp [rowBytes, rB, rowBytes_B p]
theorem b2s_B (H : Heap) (p : List Nat) : b2sK H (some (eB p)) = some (.str (strB p)) := by
  simp only [b2sK, eB, rowsOf, rowBytes_B]; rfl
end Go.Proofs.Ythgcnlmmgilhjaa.Code
namespace Go.Proofs.Ythgcnlmmgilhjaa.Pure
open Go.Proofs.Ythgcnlmmgilhjaa.Ev Go.Proofs.Ythgcnlmmgilhjaa.Code Go.RowKit
theorem typed {α : Type} {P : List AV → Prop} {enc : α → List AV} {Q : α → Prop} (h : ∀ r, P r → ∃ x, r = enc x ∧ Q x) : ∀ l : List (List AV), (∀ r ∈ l, P r) → ∃ xs : List α, l = xs.map enc ∧ ∀ x ∈ xs, Q x
  | [], _ => ⟨[], rfl, by simp⟩
  | r :: l, hl => by
    obtain ⟨x, rfl, hx⟩ := h r (hl r (List.mem_cons_self ..))
    obtain ⟨xs, rfl, hxs⟩ := typed h l fun r hr => hl r (List.mem_cons_of_mem _ hr)
    exact ⟨x :: xs, rfl, fun y hy => by (rcases List.mem_cons.1 hy with rfl | hy; exact hx; exact hxs y hy)⟩
end Go.Proofs.Ythgcnlmmgilhjaa.Pure

/- page: bytes that are used. -/
set_option linter.unusedSimpArgs false
set_option linter.unusedVariables false
namespace Go.Proofs.Ythgcnlmmgilhjaa.Code
open Go.Proofs.Ythgcnlmmgilhjaa.Ev

def withinOk (a n : Int) : Prop := 2 ≤ a ∧ a ≤ 128 ∧ 1 ≤ n ∧ n ≤ 128 - a
instance (a n : Int) : Decidable (withinOk a n) := by unfold withinOk; infer_instance
theorem f36 (a n : Int) (H : Heap) : cal (evC cprog) false 36 [.int .i64 a, .int .i64 n] H = some (.bool (decide (withinOk a n)), H) := by
  rw [cal_of at36]
  by_cases h1 : 2 ≤ a
  · by_cases h2 : a ≤ 128
    · have hw : IntKind.i64.wrap (128 - a) = 128 - a := wrap_i64 (by omega) (by omega)
      by_cases h3 : 1 ≤ n
      · by_cases h4 : n ≤ 128 - a
        · rw [decide_eq_true (show withinOk a n from ⟨h1, h2, h3, h4⟩)]
          simp only [c36, h1, h2, h3, h4, hw, evX, Int.reduceEq, Int.reduceLT, Int.reduceLE, Nat.reduceMul, Nat.reduceMod, evW, fn_eq, evR, Nat.reduceAdd, Nat.reduceLT, Nat.reduceLeDiff, reduceIte, Nat.reduceEqDiff, reduceCtorEq, argEnv, eq_self, if_true, if_false]
          repeat' ((first | rw [guardK_cases] | rw [condK_bool] | rw [guardD_cases]); split <;> simp only [c36, h1, h2, h3, h4, hw, evX, Int.reduceEq, Int.reduceLT, Int.reduceLE, Nat.reduceMul, Nat.reduceMod, evW, evR, Nat.reduceAdd, Nat.reduceLT, Nat.reduceLeDiff, reduceIte, Nat.reduceEqDiff, reduceCtorEq, argEnv, eq_self, if_true, if_false, *])
        · rw [decide_eq_false (show ¬ withinOk a n from fun h => h4 h.2.2.2)]
          simp only [c36, h1, h2, h3, h4, hw, evX, Int.reduceEq, Int.reduceLT, Int.reduceLE, Nat.reduceMul, Nat.reduceMod, evW, fn_eq, evR, Nat.reduceAdd, Nat.reduceLT, Nat.reduceLeDiff, reduceIte, Nat.reduceEqDiff, reduceCtorEq, argEnv, eq_self, if_true, if_false]
          repeat' ((first | rw [guardK_cases] | rw [condK_bool] | rw [guardD_cases]); split <;> simp only [c36, h1, h2, h3, h4, hw, evX, Int.reduceEq, Int.reduceLT, Int.reduceLE, Nat.reduceMul, Nat.reduceMod, evW, evR, Nat.reduceAdd, Nat.reduceLT, Nat.reduceLeDiff, reduceIte, Nat.reduceEqDiff, reduceCtorEq, argEnv, eq_self, if_true, if_false, *])
      · rw [decide_eq_false (show ¬ withinOk a n from fun h => h3 h.2.2.1)]
        simp only [c36, h1, h2, h3, evX, Int.reduceEq, Int.reduceLT, Int.reduceLE, Nat.reduceMul, Nat.reduceMod, evW, fn_eq, evR, Nat.reduceAdd, Nat.reduceLT, Nat.reduceLeDiff, reduceIte, Nat.reduceEqDiff, reduceCtorEq, argEnv, eq_self, if_true, if_false]
        repeat' ((first | rw [guardK_cases] | rw [condK_bool] | rw [guardD_cases]); split <;> simp only [c36, h1, h2, h3, evX, Int.reduceEq, Int.reduceLT, Int.reduceLE, Nat.reduceMul, Nat.reduceMod, evW, evR, Nat.reduceAdd, Nat.reduceLT, Nat.reduceLeDiff, reduceIte, Nat.reduceEqDiff, reduceCtorEq, argEnv, eq_self, if_true, if_false, *])
    · rw [decide_eq_false (show ¬ withinOk a n from fun h => h2 h.2.1)]
      simp only [c36, h1, h2, evX, Int.reduceEq, Int.reduceLT, Int.reduceLE, Nat.reduceMul, Nat.reduceMod, evW, fn_eq, evR, Nat.reduceAdd, Nat.reduceLT, Nat.reduceLeDiff, reduceIte, Nat.reduceEqDiff, reduceCtorEq, argEnv, eq_self, if_true, if_false]
      repeat' ((first | rw [guardK_cases] | rw [condK_bool] | rw [guardD_cases]); split <;> simp only [c36, h1, h2, evX, Int.reduceEq, Int.reduceLT, Int.reduceLE, Nat.reduceMul, Nat.reduceMod, evW, evR, Nat.reduceAdd, Nat.reduceLT, Nat.reduceLeDiff, reduceIte, Nat.reduceEqDiff, reduceCtorEq, argEnv, eq_self, if_true, if_false, *])
  · rw [decide_eq_false (show ¬ withinOk a n from fun h => h1 h.1)]
    simp only [c36, h1, evX, Int.reduceEq, Int.reduceLT, Int.reduceLE, Nat.reduceMul, Nat.reduceMod, evW, fn_eq, evR, Nat.reduceAdd, Nat.reduceLT, Nat.reduceLeDiff, reduceIte, Nat.reduceEqDiff, reduceCtorEq, argEnv, eq_self, if_true, if_false]
    repeat' ((first | rw [guardK_cases] | rw [condK_bool] | rw [guardD_cases]); split <;> simp only [c36, h1, evX, Int.reduceEq, Int.reduceLT, Int.reduceLE, Nat.reduceMul, Nat.reduceMod, evW, evR, Nat.reduceAdd, Nat.reduceLT, Nat.reduceLeDiff, reduceIte, Nat.reduceEqDiff, reduceCtorEq, argEnv, eq_self, if_true, if_false, *])
def meets (a n : Nat) (x : Pl) : Bool := decide (x.1 < a + n) && decide (a < x.1 + x.2)
def usedAns (l : List Pl) (a n : Nat) : Bool := !l.any (meets a n)
theorem f49 (x : Pl) (h1 : x.1 < 1000000) (h2 : x.2 < 1000000) (a n : Nat) (ha : a + n < 1000000) (b1 b2 : Nat) (H : Heap) (hb1 : ∀ X, (H ++ X)[b1]? = some ⟨0, true, 3, 1, [[.int .i64 (a : Int)]]⟩) (hb2 : ∀ X, (H ++ X)[b2]? = some ⟨0, true, 3, 1, [[.int .i64 (n : Int)]]⟩) :
    cal (evC cprog) false 49 [.agg (rPl x), .ptr b1 0 1 0 0, .ptr b2 0 1 0 0] H = some (.bool (meets a n x), H) := by
  have hw := wrapA (a := a) (b := n) (by omega) (by omega)
  have h47 := fun H => f47 x h1 h2 H
  simp only [rPl] at h47
  rw [cal_of at49]
  by_cases c1 : x.1 < a + n
  · have d1 : (x.1 : Int) < ((a + n : Nat) : Int) := by omega
    by_cases c2 : a < x.1 + x.2
    · have d2 : (a : Int) < ((x.1 + x.2 : Nat) : Int) := by omega
      have hm : meets a n x = true := by simp [meets, c1, c2]
      rw [hm]
      simp only [c49, rPl, hb1, hb2, hw, h47, d1, d2, evX, Int.reduceEq, Int.reduceLT, Int.reduceLE, Nat.reduceMul, Nat.reduceMod, evW, fn_eq, evR, Nat.reduceAdd, Nat.reduceLT, Nat.reduceLeDiff, reduceIte, Nat.reduceEqDiff, reduceCtorEq, argEnv, eq_self, if_true, if_false]
      repeat' ((first | rw [guardK_cases] | rw [condK_bool] | rw [guardD_cases]); split <;> simp only [c49, rPl, hb1, hb2, hw, h47, d1, d2, evX, Int.reduceEq, Int.reduceLT, Int.reduceLE, Nat.reduceMul, Nat.reduceMod, evW, evR, Nat.reduceAdd, Nat.reduceLT, Nat.reduceLeDiff, reduceIte, Nat.reduceEqDiff, reduceCtorEq, argEnv, eq_self, if_true, if_false, *])
    · have d2 : ¬ (a : Int) < ((x.1 + x.2 : Nat) : Int) := by omega
      have hm : meets a n x = false := by simp [meets, c2]
      rw [hm]
      simp only [c49, rPl, hb1, hb2, hw, h47, d1, d2, evX, Int.reduceEq, Int.reduceLT, Int.reduceLE, Nat.reduceMul, Nat.reduceMod, evW, fn_eq, evR, Nat.reduceAdd, Nat.reduceLT, Nat.reduceLeDiff, reduceIte, Nat.reduceEqDiff, reduceCtorEq, argEnv, eq_self, if_true, if_false]
      repeat' ((first | rw [guardK_cases] | rw [condK_bool] | rw [guardD_cases]); split <;> simp only [c49, rPl, hb1, hb2, hw, h47, d1, d2, evX, Int.reduceEq, Int.reduceLT, Int.reduceLE, Nat.reduceMul, Nat.reduceMod, evW, evR, Nat.reduceAdd, Nat.reduceLT, Nat.reduceLeDiff, reduceIte, Nat.reduceEqDiff, reduceCtorEq, argEnv, eq_self, if_true, if_false, *])
  · have d1 : ¬ (x.1 : Int) < ((a + n : Nat) : Int) := by omega
    have hm : meets a n x = false := by simp [meets, c1]
    rw [hm]
    simp only [c49, rPl, hb1, hb2, hw, h47, d1, evX, Int.reduceEq, Int.reduceLT, Int.reduceLE, Nat.reduceMul, Nat.reduceMod, evW, fn_eq, evR, Nat.reduceAdd, Nat.reduceLT, Nat.reduceLeDiff, reduceIte, Nat.reduceEqDiff, reduceCtorEq, argEnv, eq_self, if_true, if_false]
    repeat' ((first | rw [guardK_cases] | rw [condK_bool] | rw [guardD_cases]); split <;> simp only [c49, rPl, hb1, hb2, hw, h47, d1, evX, Int.reduceEq, Int.reduceLT, Int.reduceLE, Nat.reduceMul, Nat.reduceMod, evW, evR, Nat.reduceAdd, Nat.reduceLT, Nat.reduceLeDiff, reduceIte, Nat.reduceEqDiff, reduceCtorEq, argEnv, eq_self, if_true, if_false, *])
theorem lPl (x : Pl) : Loads true 2 (rPl x) (.agg (rPl x)) := ⟨rfl, rfl⟩
theorem f37 (l : List Pl) (lv : AV) (hl : l.length < 1000000) (hb : ∀ x ∈ l, x.1 < 1000000 ∧ x.2 < 1000000) (a n : Nat) (ha : a + n < 1000000) (H : Heap) (hs : SlAt H 2 lv (l.map rPl)) :
    cal (evC cprog) false 37 [lv, .int .i64 (a : Int), .int .i64 (n : Int)] H = some (.bool (usedAns l a n), H) := by
  have h48 := containsFunc_ok (g := 41) at48 (indexFunc_ok (sz := 2) (ag := true) at41 rPl (fun x => .agg (rPl x)) lPl 49 [.ptr H.length 0 1 0 0, .ptr (H.length + 1) 0 1 0 0] (meets a n) (H ++ [⟨0, true, 3, 1, [[.int .i64 (a : Int)]]⟩, ⟨0, true, 3, 1, [[.int .i64 (n : Int)]]⟩]) lv l (hs.app _) (by omega)
    fun x hx => f49 x (hb x hx).1 (hb x hx).2 a n ha H.length (H.length + 1) _ (fun X => by simp only [evR, Nat.reduceAdd, Nat.reduceLT, Nat.reduceLeDiff, reduceIte, Nat.reduceEqDiff, reduceCtorEq, argEnv, eq_self, if_true, if_false]) (fun X => by simp only [evR, Nat.reduceAdd, Nat.reduceLT, Nat.reduceLeDiff, reduceIte, Nat.reduceEqDiff, reduceCtorEq, argEnv, eq_self, if_true, if_false]))
  rw [cal_of at37]
  have hsc : ∀ b v s i o, AV.scal (.ptr b v s i o) = true := fun _ _ _ _ _ => rfl
  simp only [c37, h48, hsc, usedAns, evX, Int.reduceEq, Int.reduceLT, Int.reduceLE, Nat.reduceMul, Nat.reduceMod, evW, fn_eq, evR, Nat.reduceAdd, Nat.reduceLT, Nat.reduceLeDiff, reduceIte, Nat.reduceEqDiff, reduceCtorEq, argEnv, eq_self, if_true, if_false]
  repeat' ((first | rw [guardK_cases] | rw [condK_bool] | rw [guardD_cases]); split <;> simp only [c37, h48, hsc, usedAns, evX, Int.reduceEq, Int.reduceLT, Int.reduceLE, Nat.reduceMul, Nat.reduceMod, evW, evR, Nat.reduceAdd, Nat.reduceLT, Nat.reduceLeDiff, reduceIte, Nat.reduceEqDiff, reduceCtorEq, argEnv, eq_self, if_true, if_false, *])
end Go.Proofs.Ythgcnlmmgilhjaa.Code

/- page: whether bytes are used, and what they are. -/
set_option linter.unusedSimpArgs false
set_option linter.unusedVariables false
namespace Go.Proofs.Ythgcnlmmgilhjaa.Code
open Go.Proofs.Ythgcnlmmgilhjaa.Ev

theorem pl_small (p : List Nat) (hp : Page p) : ∀ (k a least : Nat) (l : List Pl), 130 - least ≤ k → pl p a least = some l → ∀ x ∈ l, x.1 ≤ 126 ∧ x.2 < 256 ∧ x.1 + x.2 ≤ 128
  | k, a, least, l, hk, h => by
    by_cases h0 : a = 0
    · subst h0; rw [pl_zero] at h; cases h; simp
    · by_cases h1 : a < least ∨ a % 2 = 1 ∨ 126 < a
      · rw [pl_bad p h0 h1] at h; cases h
      · by_cases h2 : byte p (a + 1) < 2 ∨ byte p (a + 1) % 2 = 1 ∨ 128 < a + byte p (a + 1)
        · rw [pl_bad' p h0 h2] at h; cases h
        · rw [pl_next p h0 h1 h2] at h
          cases hq : pl p (byte p a) (a + byte p (a + 1) + 1) with
          | none => rw [hq] at h; cases h
          | some l' =>
            rw [hq] at h
            cases h
            cases k with
            | zero => omega
            | succ k =>
              intro x hx
              rcases List.mem_cons.1 hx with rfl | hx
              · exact ⟨by show a ≤ 126; omega, hp.byte _, by show a + byte p (a + 1) ≤ 128; omega⟩
              · exact pl_small p hp k _ _ l' (by omega) hq x hx
theorem ans_small (p : List Nat) (hp : Page p) : ∀ x ∈ (plAns p).1, x.1 ≤ 126 ∧ x.2 < 256 ∧ x.1 + x.2 ≤ 128 := by
  unfold plAns plOf
  split
  · rename_i l h
    split at h
    · exact pl_small p hp 130 _ _ l (by omega) h
    · cases h
  · simp
theorem ans_128 (p : List Nat) (h : (plAns p).2 = true) : p.length = 128 := by
  unfold plAns plOf at h
  split at h
  · rename_i l hl
    split at hl
    · rename_i hc; exact hc.1
    · cases hl
  · cases h
/-- what IsUsed answers -/
def isUsedAns (p : List Nat) (a n : Int) : Bool × Int := if (plAns p).2 = false then (false, 70) else if ¬ withinOk a n then (false, 2) else (usedAns (plAns p).1 a.toNat n.toNat, 0)
theorem f22 (p : List Nat) (hp : Page p) (a n : Int) (H : Heap) : cal (evC cprog) false 22 [eB p, .int .i64 a, .int .i64 n] H = some (.tup [.bool (isUsedAns p a n).1, .int .i64 (isUsedAns p a n).2], H) := by
  have h32 := fun H => f32F p hp H
  rw [cal_of at22]
  cases hok : (plAns p).2 with
  | false =>
    have ha : isUsedAns p a n = (false, 70) := by simp [isUsedAns, hok]
    simp only [hok] at h32
    rw [ha]
    simp only [c22, h32, evX, Int.reduceEq, Int.reduceLT, Int.reduceLE, Nat.reduceMul, Nat.reduceMod, evW, fn_eq, evR, Nat.reduceAdd, Nat.reduceLT, Nat.reduceLeDiff, reduceIte, Nat.reduceEqDiff, reduceCtorEq, argEnv, eq_self, if_true, if_false]
    repeat' ((first | rw [guardK_cases] | rw [condK_bool] | rw [guardD_cases]); split <;> simp only [c22, h32, evX, Int.reduceEq, Int.reduceLT, Int.reduceLE, Nat.reduceMul, Nat.reduceMod, evW, evR, Nat.reduceAdd, Nat.reduceLT, Nat.reduceLeDiff, reduceIte, Nat.reduceEqDiff, reduceCtorEq, argEnv, eq_self, if_true, if_false, *])
  | true =>
    simp only [hok] at h32
    have h36 := fun H => f36 a n H
    by_cases hw : withinOk a n
    · have ha : isUsedAns p a n = (usedAns (plAns p).1 a.toNat n.toNat, 0) := by simp [isUsedAns, hok, hw]
      rw [ha]
      have hwi := hw
      unfold withinOk at hwi
      obtain ⟨a, rfl⟩ : ∃ k : Nat, a = k := ⟨a.toNat, by omega⟩
      obtain ⟨n, rfl⟩ : ∃ k : Nat, n = k := ⟨n.toNat, by omega⟩
      have h37 := fun H => f37 (plAns p).1 (ePl (plAns p).1) (by have := ans_len p; omega) (fun x hx => by have := ans_small p hp x hx; omega) a n (by omega) H (sPl H _)
      simp only [c22, h32, h36, hw, h37, Int.toNat_natCast, evX, Int.reduceEq, Int.reduceLT, Int.reduceLE, Nat.reduceMul, Nat.reduceMod, evW, fn_eq, evR, Nat.reduceAdd, Nat.reduceLT, Nat.reduceLeDiff, reduceIte, Nat.reduceEqDiff, reduceCtorEq, argEnv, eq_self, if_true, if_false]
      repeat' ((first | rw [guardK_cases] | rw [condK_bool] | rw [guardD_cases]); split <;> simp only [c22, h32, h36, hw, h37, Int.toNat_natCast, evX, Int.reduceEq, Int.reduceLT, Int.reduceLE, Nat.reduceMul, Nat.reduceMod, evW, evR, Nat.reduceAdd, Nat.reduceLT, Nat.reduceLeDiff, reduceIte, Nat.reduceEqDiff, reduceCtorEq, argEnv, eq_self, if_true, if_false, *])
    · have ha : isUsedAns p a n = (false, 2) := by simp [isUsedAns, hok, hw]
      rw [ha]
      simp only [c22, h32, h36, hw, evX, Int.reduceEq, Int.reduceLT, Int.reduceLE, Nat.reduceMul, Nat.reduceMod, evW, fn_eq, evR, Nat.reduceAdd, Nat.reduceLT, Nat.reduceLeDiff, reduceIte, Nat.reduceEqDiff, reduceCtorEq, argEnv, eq_self, if_true, if_false]
      repeat' ((first | rw [guardK_cases] | rw [condK_bool] | rw [guardD_cases]); split <;> simp only [c22, h32, h36, hw, evX, Int.reduceEq, Int.reduceLT, Int.reduceLE, Nat.reduceMul, Nat.reduceMod, evW, evR, Nat.reduceAdd, Nat.reduceLT, Nat.reduceLeDiff, reduceIte, Nat.reduceEqDiff, reduceCtorEq, argEnv, eq_self, if_true, if_false, *])
theorem at39' : cprog 39 = some (cClone 5 1 1) := rfl
end Go.Proofs.Ythgcnlmmgilhjaa.Code

/- page: bytes taken out, and laid over others. -/
set_option linter.unusedSimpArgs false
set_option linter.unusedVariables false
namespace Go.Proofs.Ythgcnlmmgilhjaa.Code
open Go.Proofs.Ythgcnlmmgilhjaa.Ev

theorem f39 (q : List Nat) (hne : q ≠ []) (hl : q.length ≤ 1000000) (H : Heap) : cal (evC cprog) false 39 [eB q] H = some (.ref H.length 0 1 0 q.length, H ++ [bP 0 q]) := by
  cases q with
  | nil => exact absurd rfl hne
  | cons n q =>
    have := clone_lst at39' (rB n) (q.map rB) H rfl (by simp only [List.length_cons, List.length_map, reach] at *; omega)
    simpa [eB, bP] using this
theorem fz_B (H : Heap) (v : Nat) (q : List Nat) (hne : q ≠ []) (X : Heap) : ∃ ids, fz (H ++ (bP v q :: X)) 8 (.ref H.length v 1 0 q.length) = some (eB q, ids) ∧ ∀ b ∈ ids, H.length ≤ b := by
  have hO : Out H.length 1 5 (bP v q :: X) (.ref H.length v 1 0 q.length) (q.map rB) := .inr ⟨by simpa using hne, 0, v, by simp, rfl⟩
  exact fz_out hO H rfl (fun r hr a ha => by
    obtain ⟨n, _, rfl⟩ := List.mem_map.1 hr
    simp [rB] at ha
    subst ha
    exact ⟨rfl, fun m H => rfl⟩) 6
theorem calF_B {H X : Heap} {v : Nat} (q : List Nat) (hne : q ≠ []) (e : Int) : calK true H (some (.tup [.ref H.length v 1 0 q.length, .int .i64 e], H ++ (bP v q :: X))) = some (.tup [eB q, .int .i64 e], H) := by
  obtain ⟨ids, h1, h2⟩ := fz_B H v q hne X
  refine calK_frz (ids := ids) ?_ rfl (by simp) h2
  show (fzCells (fz1 _) [.ref H.length v 1 0 q.length, .int .i64 e]).map _ = _
  have e1 : fz1 (H ++ (bP v q :: X)) (.ref H.length v 1 0 q.length) = fz (H ++ (bP v q :: X)) 8 (.ref H.length v 1 0 q.length) := rfl
  have e2 : fz1 (H ++ (bP v q :: X)) (.int .i64 e) = some (.int .i64 e, []) := rfl
  simp only [fzCells, e1, h1, e2, Option.map_some, List.append_nil]
theorem calF_noB {H : Heap} (X : Heap) (e : Int) : calK true H (some (.tup [.nils, .int .i64 e], H ++ X)) = some (.tup [eB [], .int .i64 e], H) :=
  calK_frz (ids := []) rfl rfl (by simp) (by simp)
def sub (p : List Nat) (a n : Nat) : List Nat := (p.take (a + n)).drop a
theorem slc_B (p : List Nat) {a n : Nat} (h : a + n ≤ p.length) (H : Heap) : evSlc H 1 (eB p) (some a) (some (a + n)) none = some (eB (sub p a n)) := by
  have hh : headOk 1 (p.map rB) = true := by cases p <;> simp [headOk, rB]
  show (if headOk 1 (p.map rB) = true ∧ a ≤ a + n ∧ a + n ≤ (p.map rB).length then some (AV.lst (((p.map rB).take (a + n)).drop a)) else none) = _
  rw [if_pos ⟨hh, by omega, by simpa using h⟩]
  simp [sub, eB, List.map_take, List.map_drop]
theorem sub_len (p : List Nat) {a n : Nat} (h : a + n ≤ p.length) : (sub p a n).length = n := by simp [sub]; omega
/-- what Get answers -/
def getAns (p : List Nat) (a n : Int) : List Nat × Int := if (isUsedAns p a n).2 ≠ 0 then ([], (isUsedAns p a n).2) else if (isUsedAns p a n).1 = false then ([], 2) else (sub p a.toNat n.toNat, 0)
theorem used_in {p : List Nat} {a n : Int} (h : (isUsedAns p a n).2 = 0) : withinOk a n ∧ p.length = 128 := by
  unfold isUsedAns at h
  split at h
  · cases h
  · rename_i hok
    split at h
    · cases h
    · rename_i hw
      exact ⟨Decidable.not_not.1 hw, ans_128 p (by simpa using hok)⟩
theorem f24 (p : List Nat) (hp : Page p) (a n : Int) (H : Heap) : cal (evC cprog) true 24 [eB p, .int .i64 a, .int .i64 n] H = some (.tup [eB (getAns p a n).1, .int .i64 (getAns p a n).2], H) := by
  have h22 := fun H => f22 p hp a n H
  rw [cal_of at24]
  by_cases he : (isUsedAns p a n).2 = 0
  · cases hi : (isUsedAns p a n).1 with
    | false =>
      have ha : getAns p a n = ([], 2) := by simp [getAns, he, hi]
      rw [ha]
      simp only [he, hi] at h22
      simp only [c24, h22, evX, Int.reduceEq, Int.reduceLT, Int.reduceLE, Nat.reduceMul, Nat.reduceMod, evW, fn_eq, evR, Nat.reduceAdd, Nat.reduceLT, Nat.reduceLeDiff, reduceIte, Nat.reduceEqDiff, reduceCtorEq, argEnv, eq_self, if_true, if_false]
      repeat' ((first | rw [guardK_cases] | rw [condK_bool] | rw [guardD_cases]); split <;> simp only [c24, h22, evX, Int.reduceEq, Int.reduceLT, Int.reduceLE, Nat.reduceMul, Nat.reduceMod, evW, evR, Nat.reduceAdd, Nat.reduceLT, Nat.reduceLeDiff, reduceIte, Nat.reduceEqDiff, reduceCtorEq, argEnv, eq_self, if_true, if_false, *])
      simpa using calF_noB (H := H) [] 2
    | true =>
      obtain ⟨hw, h128⟩ := used_in he
      have ha : getAns p a n = (sub p a.toNat n.toNat, 0) := by simp [getAns, he, hi]
      rw [ha]
      simp only [he, hi] at h22
      unfold withinOk at hw
      obtain ⟨a, rfl⟩ : ∃ k : Nat, a = k := ⟨a.toNat, by omega⟩
      obtain ⟨n, rfl⟩ : ∃ k : Nat, n = k := ⟨n.toNat, by omega⟩
      have hwr := wrapA (a := a) (b := n) (by omega) (by omega)
      have hsl := fun H => slc_B p (a := a) (n := n) (by omega) H
      have hsn := sub_len p (a := a) (n := n) (by omega)
      have hne : sub p a n ≠ [] := by intro h; rw [h] at hsn; simp at hsn; omega
      have h39 := fun H => f39 (sub p a n) hne (by omega) H
      simp only [c24, h22, hwr, hsl, h39, Int.toNat_natCast, evX, Int.reduceEq, Int.reduceLT, Int.reduceLE, Nat.reduceMul, Nat.reduceMod, evW, fn_eq, evR, Nat.reduceAdd, Nat.reduceLT, Nat.reduceLeDiff, reduceIte, Nat.reduceEqDiff, reduceCtorEq, argEnv, eq_self, if_true, if_false]
      repeat' ((first | rw [guardK_cases] | rw [condK_bool] | rw [guardD_cases]); split <;> simp only [c24, h22, hwr, hsl, h39, Int.toNat_natCast, evX, Int.reduceEq, Int.reduceLT, Int.reduceLE, Nat.reduceMul, Nat.reduceMod, evW, evR, Nat.reduceAdd, Nat.reduceLT, Nat.reduceLeDiff, reduceIte, Nat.reduceEqDiff, reduceCtorEq, argEnv, eq_self, if_true, if_false, *])
      exact calF_B (X := []) _ hne 0
  · have ha : getAns p a n = ([], (isUsedAns p a n).2) := by simp [getAns, he]
    rw [ha]
    simp only [c24, h22, he, evX, Int.reduceEq, Int.reduceLT, Int.reduceLE, Nat.reduceMul, Nat.reduceMod, evW, fn_eq, evR, Nat.reduceAdd, Nat.reduceLT, Nat.reduceLeDiff, reduceIte, Nat.reduceEqDiff, reduceCtorEq, argEnv, eq_self, if_true, if_false]
    repeat' ((first | rw [guardK_cases] | rw [condK_bool] | rw [guardD_cases]); split <;> simp only [c24, h22, he, evX, Int.reduceEq, Int.reduceLT, Int.reduceLE, Nat.reduceMul, Nat.reduceMod, evW, evR, Nat.reduceAdd, Nat.reduceLT, Nat.reduceLeDiff, reduceIte, Nat.reduceEqDiff, reduceCtorEq, argEnv, eq_self, if_true, if_false, *])
    simpa using calF_noB (H := H) [] (isUsedAns p a n).2
/-- bytes laid over others -/
def putB (p : List Nat) (a : Nat) (b : List Nat) : List Nat := p.take a ++ b ++ p.drop (a + b.length)
theorem slr_B {H : Heap} (b v a : Nat) (h : a ≤ 128) : evSlc H 1 (.ref b v 1 0 128) (some a) none none = some (.ref b v 1 a (128 - a)) := by
  simp [evSlc, h]
theorem putB_len {p : List Nat} {a : Nat} {b : List Nat} (hp : p.length = 128) (h : a + b.length ≤ 128) : (putB p a b).length = 128 := by simp [putB]; omega
end Go.Proofs.Ythgcnlmmgilhjaa.Code

/- The law PageReads. -/
set_option linter.unusedSimpArgs false
set_option linter.unusedVariables false
namespace Go.Proofs.Ythgcnlmmgilhjaa.Code
open Go.Proofs.Ythgcnlmmgilhjaa.Ev Go.RowKit

end Go.Proofs.Ythgcnlmmgilhjaa.Code
namespace Go.Proofs.Ythgcnlmmgilhjaa.Pure
open Go.Proofs.Ythgcnlmmgilhjaa.Ev Go.Proofs.Ythgcnlmmgilhjaa.Code Go.RowKit
end Go.Proofs.Ythgcnlmmgilhjaa.Pure

/- page: places that stand apart; what their heads are, byte by byte. -/
set_option linter.unusedSimpArgs false
set_option linter.unusedVariables false
namespace Go.Proofs.Ythgcnlmmgilhjaa.Code
open Go.Proofs.Ythgcnlmmgilhjaa.Ev

def first : List Pl → Nat
  | [] => 0
  | x :: _ => x.1
/-- places that stand apart, from an offset on -/
def okL : Nat → List Pl → Prop
  | _, [] => True
  | m, x :: l => m ≤ x.1 ∧ x.1 % 2 = 0 ∧ x.1 ≤ 126 ∧ 2 ≤ x.2 ∧ x.2 % 2 = 0 ∧ x.1 + x.2 ≤ 128 ∧ okL (x.1 + x.2 + 1) l
theorem okL_le {m m' : Nat} (h : m' ≤ m) : ∀ {l : List Pl}, okL m l → okL m' l
  | [], _ => trivial
  | x :: l, ⟨h1, h2⟩ => ⟨by omega, h2⟩
structure PlaceOk (m : Nat) (x : Pl) : Prop where
  ge : m ≤ x.1
  even : x.1 % 2 = 0
  le : x.1 ≤ 126
  two : 2 ≤ x.2
  evenN : x.2 % 2 = 0
  fit : x.1 + x.2 ≤ 128
theorem okL_at : ∀ {l : List Pl} {m k : Nat} {x : Pl}, okL m l → l[k]? = some x → PlaceOk m x
  | [], m, k, x, _, h => by simp at h
  | y :: l, m, 0, x, ⟨h1, h2, h3, h4, h5, h6, h7⟩, h => by simp at h; subst h; exact ⟨h1, h2, h3, h4, h5, h6⟩
  | y :: l, m, k + 1, x, ⟨h1, h2, h3, h4, h5, h6, h7⟩, h => by
    have := okL_at (k := k) h7 (by simpa using h)
    exact ⟨by have := this.ge; omega, this.even, this.le, this.two, this.evenN, this.fit⟩
theorem okL_lt : ∀ {l : List Pl} {m i k : Nat} {x y : Pl}, okL m l → i < k → l[i]? = some x → l[k]? = some y → x.1 + x.2 + 1 ≤ y.1
  | [], m, i, k, x, y, _, _, h, _ => by simp at h
  | z :: l, m, 0, k + 1, x, y, h, _, hx, hy => by
    simp at hx; subst hx
    exact (okL_at h.2.2.2.2.2.2 (k := k) (by simpa using hy)).ge
  | z :: l, m, i + 1, k + 1, x, y, h, hik, hx, hy => okL_lt h.2.2.2.2.2.2 (by omega) (i := i) (k := k) (by simpa using hx) (by simpa using hy)
  | z :: l, m, 0, 0, x, y, _, hik, _, _ => by omega
  | z :: l, m, i + 1, 0, x, y, _, hik, _, _ => by omega
theorem okL_mem {l : List Pl} {m : Nat} (h : okL m l) {x : Pl} (hx : x ∈ l) : PlaceOk m x := by
  obtain ⟨k, hk⟩ := List.getElem?_of_mem hx
  exact okL_at h hk
theorem pl_okL (p : List Nat) : ∀ (k a m : Nat) (l : List Pl), 130 - m ≤ k → pl p a m = some l → okL m l ∧ first l = a := by
  intro k
  induction k with
  | zero =>
    intro a m l hk h
    by_cases h0 : a = 0
    · subst h0; rw [pl_zero] at h; cases h; exact ⟨trivial, rfl⟩
    · rw [pl_bad p h0 (by omega)] at h; cases h
  | succ k ih =>
    intro a m l hk h
    by_cases h0 : a = 0
    · subst h0; rw [pl_zero] at h; cases h; exact ⟨trivial, rfl⟩
    by_cases h1 : a < m ∨ a % 2 = 1 ∨ 126 < a
    · rw [pl_bad p h0 h1] at h; cases h
    by_cases h2 : byte p (a + 1) < 2 ∨ byte p (a + 1) % 2 = 1 ∨ 128 < a + byte p (a + 1)
    · rw [pl_bad' p h0 h2] at h; cases h
    rw [pl_next p h0 h1 h2] at h
    cases hq : pl p (byte p a) (a + byte p (a + 1) + 1) with
    | none => rw [hq] at h; cases h
    | some l' =>
      rw [hq] at h
      simp only [Option.map_some, Option.some.injEq] at h
      subst h
      obtain ⟨h3, _⟩ := ih _ _ _ (by omega) hq
      exact ⟨⟨by omega, by omega, by omega, by omega, by omega, by omega, h3⟩, rfl⟩
theorem byte_set (q : List Nat) (i v j : Nat) : byte (q.set i v) j = if j = i ∧ i < q.length then v else byte q j := by
  unfold byte
  rw [List.getElem?_set]
  by_cases h : i = j
  · subst h
    by_cases hl : i < q.length
    · simp [hl]
    · simp [hl]
  · rw [if_neg h, if_neg (by intro e; exact h e.1.symm)]
/-- what the head of a place says of the next one -/
def nx (l : List Pl) (k : Nat) : Nat := match l[k + 1]? with
  | some y => y.1
  | none => 0
theorem nx_zero (x : Pl) (l : List Pl) : nx (x :: l) 0 = first l := by cases l <;> rfl
theorem nx_succ (x : Pl) (l : List Pl) (k : Nat) : nx (x :: l) (k + 1) = nx l k := by simp [nx]
structure Chained (q q0 : List Nat) (l : List Pl) : Prop where
  len : q.length = 128
  zero : byte q 0 = first l
  head : ∀ (k : Nat) (x : Pl), l[k]? = some x → byte q x.1 = nx l k ∧ byte q (x.1 + 1) = x.2
  rest : ∀ j, j ≠ 0 → (∀ x ∈ l, j ≠ x.1 ∧ j ≠ x.1 + 1) → byte q j = byte q0 j
theorem chained_chain {q : List Nat} (hq : q.length = 128) : ∀ {l : List Pl} {m : Nat}, okL m l → 2 ≤ m → Chained (chainB q l) q l
  | [], m, _, _ => ⟨by rw [chainB_len, hq], by show byte (q.set 0 0) 0 = 0; rw [byte_set, if_pos ⟨rfl, by omega⟩], fun k x h => by simp at h, fun j h0 _ => by
      show byte (q.set 0 0) j = byte q j
      rw [byte_set, if_neg (by omega)]⟩
  | x :: l, m, h, hm => by
    obtain ⟨h1, h2, h3, h4, h5, h6, h7⟩ := h
    have c := chained_chain hq h7 (by omega)
    have e : chainB q (x :: l) = head1 (chainB q l) x := rfl
    have hl : (chainB q l).length = 128 := c.len
    have hb : ∀ j, byte (head1 (chainB q l) x) j = if j = 0 then x.1 else if j = x.1 + 1 then x.2 else if j = x.1 then byte (chainB q l) 0 else byte (chainB q l) j := by
      intro j
      unfold head1
      rw [byte_set, byte_set, byte_set]
      simp only [List.length_set, hl]
      by_cases j0 : j = 0
      · rw [if_pos ⟨j0, by omega⟩, if_pos j0]
      rw [if_neg (by omega), if_neg j0]
      by_cases j1 : j = x.1 + 1
      · rw [if_pos ⟨j1, by omega⟩, if_pos j1]
      rw [if_neg (by omega), if_neg j1]
      by_cases j2 : j = x.1
      · rw [if_pos ⟨j2, by omega⟩, if_pos j2]
      rw [if_neg (by omega), if_neg j2]
    refine ⟨by rw [chainB_len, hq], ?_, fun k y hy => ?_, fun j h0 hj => ?_⟩
    · rw [e, hb, if_pos rfl]; rfl
    · rw [e, hb, hb]
      cases k with
      | zero =>
        simp at hy; subst hy
        rw [if_neg (by omega), if_neg (by omega), if_pos rfl, if_neg (by omega), if_pos rfl, nx_zero, c.zero]
        exact ⟨rfl, rfl⟩
      | succ k =>
        have hy' : l[k]? = some y := by simpa using hy
        have hok := (okL_at h7 hy').ge
        rw [if_neg (by omega), if_neg (by omega), if_neg (by omega), if_neg (by omega), if_neg (by omega), if_neg (by omega), nx_succ]
        exact c.head k y hy'
    · have hx := hj x (List.mem_cons_self ..)
      rw [e, hb, if_neg h0, if_neg hx.2, if_neg hx.1]
      exact c.rest j h0 fun y hy => hj y (List.mem_cons_of_mem _ hy)
theorem byte_ext {q q' : List Nat} (h : q.length = 128) (h' : q'.length = 128) (hb : ∀ j, j < 128 → byte q j = byte q' j) : q = q' := by
  apply List.ext_getElem (by omega)
  intro j h1 h2
  have := hb j (by omega)
  unfold byte at this
  rw [List.getElem?_eq_getElem h1, List.getElem?_eq_getElem h2] at this
  simpa using this
/-- heads and the rest tell the page -/
theorem chained_eq {q q' q0 q0' : List Nat} {l : List Pl} (h : Chained q q0 l) (h' : Chained q' q0' l) (hr : ∀ j, j ≠ 0 → j < 128 → (∀ x ∈ l, j ≠ x.1 ∧ j ≠ x.1 + 1) → byte q0 j = byte q0' j) : q = q' := by
  refine byte_ext h.len h'.len fun j hj => ?_
  by_cases j0 : j = 0
  · subst j0; rw [h.zero, h'.zero]
  by_cases hx : ∀ x ∈ l, j ≠ x.1 ∧ j ≠ x.1 + 1
  · rw [h.rest j j0 hx, h'.rest j j0 hx]; exact hr j j0 hj hx
  · have hx : ∃ x ∈ l, j = x.1 ∨ j = x.1 + 1 := by
      apply Classical.byContradiction
      intro hn
      exact hx fun x hx => ⟨fun e => hn ⟨x, hx, .inl e⟩, fun e => hn ⟨x, hx, .inr e⟩⟩
    obtain ⟨x, hx, e⟩ := hx
    obtain ⟨k, hk⟩ := List.getElem?_of_mem hx
    rcases e with rfl | rfl
    · rw [(h.head k x hk).1, (h'.head k x hk).1]
    · rw [(h.head k x hk).2, (h'.head k x hk).2]
theorem nx_drop (l : List Pl) (k : Nat) : nx l k = first (l.drop (k + 1)) := by
  unfold nx
  cases h : l[k + 1]? with
  | none => rw [List.drop_eq_nil_of_le (by have := List.getElem?_eq_none_iff.1 h; omega)]; rfl
  | some y =>
    obtain ⟨h1, h2⟩ := List.getElem?_eq_some_iff.1 h
    rw [List.drop_eq_getElem_cons h1, h2]; rfl
/-- what is read is what was written -/
theorem chained_read {q q0 : List Nat} {l : List Pl} (h : Chained q q0 l) (hl : okL 2 l) : pl q (byte q 0) 2 = some l := by
  have key : ∀ (n k m : Nat), l.length - k = n → k ≤ l.length → okL m (l.drop k) → 2 ≤ m → pl q (first (l.drop k)) m = some (l.drop k) := by
    intro n
    induction n with
    | zero =>
      intro k m hn hk _ _
      rw [List.drop_eq_nil_of_le (by omega)]
      exact pl_zero q m
    | succ n ih =>
      intro k m hn hk hok hm
      have hlt : k < l.length := by omega
      have hx : l[k]? = some l[k] := List.getElem?_eq_getElem hlt
      have hd := List.drop_eq_getElem_cons hlt
      obtain ⟨b1, b2⟩ := h.head k _ hx
      rw [hd] at hok ⊢
      obtain ⟨h1, h2, h3, h4, h5, h6, h7⟩ := hok
      show pl q l[k].1 m = _
      rw [pl_next q (by omega) (by omega) (by rw [b2]; omega), b1, b2, nx_drop, ih (k + 1) _ (by omega) (by omega) h7 (by omega)]
      rfl
  have := key l.length 0 2 rfl (by omega) (by simpa using hl) (Nat.le_refl _)
  rw [h.zero]
  simpa using this
end Go.Proofs.Ythgcnlmmgilhjaa.Code

/- page: Take, of the program. -/
set_option linter.unusedSimpArgs false
set_option linter.unusedVariables false
namespace Go.Proofs.Ythgcnlmmgilhjaa.Code
open Go.Proofs.Ythgcnlmmgilhjaa.Ev

def evn (n : Nat) : Nat := n + n % 2
theorem f40 (n : Nat) (hn : n < 1000000) (H : Heap) : cal (evC cprog) false 40 [.int .i64 (n : Int)] H = some (.int .i64 (evn n : Int), H) := by
  rw [cal_of at40]
  have hw := wrapA (a := n) (b := n % 2) (by omega) (by omega)
  simp only [c40, tm2, hw, evn, evX, Int.reduceEq, Int.reduceLT, Int.reduceLE, Nat.reduceMul, Nat.reduceMod, evW, fn_eq, evR, Nat.reduceAdd, Nat.reduceLT, Nat.reduceLeDiff, reduceIte, Nat.reduceEqDiff, reduceCtorEq, argEnv, eq_self, if_true, if_false]
  repeat' ((first | rw [guardK_cases] | rw [condK_bool] | rw [guardD_cases]); split <;> simp only [c40, tm2, hw, evn, evX, Int.reduceEq, Int.reduceLT, Int.reduceLE, Nat.reduceMul, Nat.reduceMod, evW, evR, Nat.reduceAdd, Nat.reduceLT, Nat.reduceLeDiff, reduceIte, Nat.reduceEqDiff, reduceCtorEq, argEnv, eq_self, if_true, if_false, *])
def zeroP (q : List Nat) (a n : Nat) : List Nat := q.take a ++ List.replicate n 0 ++ q.drop (a + n)
theorem zeroP_len {q : List Nat} {a n : Nat} (h : a + n ≤ q.length) : (zeroP q a n).length = q.length := by simp [zeroP]; omega
theorem zeroP_byte {q : List Nat} {a n : Nat} (h : a + n ≤ q.length) (j : Nat) : byte (zeroP q a n) j = if a ≤ j ∧ j < a + n then 0 else byte q j := by
  unfold byte zeroP
  by_cases h1 : j < a
  · rw [if_neg (by omega), List.append_assoc, List.getElem?_append_left (by simp; omega), List.getElem?_take, if_pos h1]
  · by_cases h2 : j < a + n
    · rw [if_pos ⟨by omega, h2⟩, List.append_assoc, List.getElem?_append_right (by simp; omega), List.getElem?_append_left (by simp; omega), List.getElem?_replicate, if_pos (by simp; omega)]; rfl
    · rw [if_neg (by omega), List.getElem?_append_right (by simp; omega), List.getElem?_drop]
      congr 2
      simp; omega
def bPls (v : Nat) (rows : List (List AV)) : Blk := ⟨v, true, 55, 2, rows⟩
def bN (n : Nat) : Blk := ⟨0, true, 3, 1, [[.int .i64 (n : Int)]]⟩
theorem f32c (p : List Nat) (hp : Page p) (H : Heap) : ∃ rv X, cal (evC cprog) false 32 [eB p] H = some (.tup [rv, .bool (plAns p).2], H ++ X) ∧ Out H.length 2 55 X rv ((plAns p).1.map rPl) := by
  obtain ⟨rv, X, h, hO⟩ := f32 p hp H
  rw [cal_of at32, h, calK_f]
  rcases gc_or H (.tup [rv, .bool (plAns p).2]) (H ++ X) with e | ⟨e, _⟩
  · exact ⟨rv, X, by rw [e], hO⟩
  · rcases hO with ⟨h1, h2 | h2⟩ | ⟨h1, j, v, h2, h3⟩
    · exact ⟨rv, [], by rw [e, List.append_nil], .inl ⟨h1, .inl h2⟩⟩
    · exact ⟨rv, [], by rw [e, List.append_nil], .inl ⟨h1, .inr h2⟩⟩
    · exact ⟨rv, X, by rw [gc_end, h2, if_neg (by simp [noRef, noRef1, noRef0])], .inr ⟨h1, j, v, h2, h3⟩⟩
theorem f42 (x : Pl) (m b1 : Nat) (H : Heap) (h1 : ∀ X, (H ++ X)[b1]? = some (bN m)) : cal (evC cprog) false 42 [.agg (rPl x), .ptr b1 0 1 0 0] H = some (.bool (decide (m ≤ x.2)), H) := by
  rw [cal_of at42]
  have h0 : H[b1]? = some (bN m) := by simpa using h1 []
  simp only [bN] at h0 h1
  simp only [c42, rPl, h0, h1, evX, Int.reduceEq, Int.reduceLT, Int.reduceLE, Nat.reduceMul, Nat.reduceMod, evW, fn_eq, evR, Nat.reduceAdd, Nat.reduceLT, Nat.reduceLeDiff, reduceIte, Nat.reduceEqDiff, reduceCtorEq, argEnv, eq_self, if_true, if_false]
  repeat' ((first | rw [guardK_cases] | rw [condK_bool] | rw [guardD_cases]); split <;> simp only [c42, rPl, h0, h1, evX, Int.reduceEq, Int.reduceLT, Int.reduceLE, Nat.reduceMul, Nat.reduceMod, evW, evR, Nat.reduceAdd, Nat.reduceLT, Nat.reduceLeDiff, reduceIte, Nat.reduceEqDiff, reduceCtorEq, argEnv, eq_self, if_true, if_false, *])
  all_goals (first | (congr 3; simp) | (simp; omega) | simp)
/-- the list behind a taking -/
def takeL (l : List Pl) (i m : Nat) : List Pl := match l[i]? with
  | some x => if x.2 = m then l.take i ++ l.drop (i + 1) else l.set i (x.1 + m, x.2 - m)
  | none => l
def fitIx (l : List Pl) (m : Nat) : Option Nat := l.findIdx? fun x => decide (m ≤ x.2)
def takeP (p : List Nat) (n : Int) : List Nat × Nat × Int :=
  if (plAns p).2 = false then ([], 0, 70) else if n < 1 ∨ 126 < n then ([], 0, 2) else
  match fitIx (plAns p).1 (evn n.toNat) with
  | none => ([], 0, 5)
  | some i => match (plAns p).1[i]? with
    | none => ([], 0, 5)
    | some x => (chainB (zeroP p x.1 (evn n.toNat)) (takeL (plAns p).1 i (evn n.toNat)), x.1, 0)
theorem plain_B (q : List Nat) : Plain (q.map rB) := by
  intro r hr a ha
  obtain ⟨x, _, rfl⟩ := List.mem_map.1 hr
  simp only [rB, List.mem_cons, List.not_mem_nil, or_false] at ha
  subst ha; exact ⟨rfl, fun _ _ => rfl⟩
theorem ans_okL (p : List Nat) : okL 2 (plAns p).1 := by
  unfold plAns
  split
  · rename_i l h
    unfold plOf at h
    split at h
    · exact (pl_okL p 128 _ _ l (by omega) h).1
    · cases h
  · trivial
/-- a list of places in memory -/
structure LAt (K : Heap) (bl v : Nat) (l : List Pl) : Prop where
  blk : ∃ els, K[bl]? = some (bPls v els) ∧ els.take l.length = l.map rPl ∧ ∀ r ∈ els, r.length = 2
theorem LAt.slat {K : Heap} {bl v : Nat} {l : List Pl} (h : LAt K bl v l) : SlAt K 2 (.ref bl v 2 0 l.length) (l.map rPl) := by
  obtain ⟨els, h1, h2, _⟩ := h
  have hl : (l.map rPl).length = l.length := by simp
  rw [← hl]
  refine .ref (k := bPls v els) (by simp [curBlk, h1, bPls]) fun i row hi => ?_
  have hx : i < l.length := by have := (List.getElem?_eq_some_iff.1 hi).1; simpa using this
  refine ⟨?_, ?_⟩
  · rw [List.getElem?_map] at hi
    cases hq : l[i]? with
    | none => rw [hq] at hi; cases hi
    | some y => rw [hq] at hi; cases hi; rfl
  · rw [Nat.zero_add]
    show els[i]? = _
    rw [← h2, List.getElem?_take, if_pos hx] at hi
    exact hi
theorem out_LAt {H X : Heap} {rv : AV} {l : List Pl} (h : Out H.length 2 55 X rv (l.map rPl)) (hne : l ≠ []) : ∃ j v, rv = .ref (H.length + j) v 2 0 l.length ∧ X[j]? = some (bPls v (l.map rPl)) := by
  rcases h with ⟨h1, _⟩ | ⟨_, j, v, h2, h3⟩
  · exact absurd (by simpa using h1) hne
  · exact ⟨j, v, by simpa using h2, h3⟩
end Go.Proofs.Ythgcnlmmgilhjaa.Code

/- page: Take, of the program: the walk. -/
set_option linter.unusedSimpArgs false
set_option linter.unusedVariables false
namespace Go.Proofs.Ythgcnlmmgilhjaa.Code
open Go.Proofs.Ythgcnlmmgilhjaa.Ev

theorem slcB {K : Heap} {b v a n : Nat} (h : a + n ≤ 128) : evSlc K 1 (.ref b v 1 0 128) (some a) (some (a + n)) none = some (.ref b v 1 a n) := by
  simp only [evSlc, if_true, Option.getD_some]
  rw [if_pos (by omega), Nat.zero_add, Nat.add_sub_cancel_left]
theorem clrB {Y : Heap} {v a n : Nat} {q : List Nat} (hq : q.length = 128) (h : a + n ≤ 128) (h0 : 0 < n) : evClear 1 [.int .u8 0] (Y ++ [bP v q]) (.ref Y.length v 1 a n) = some (Y ++ [bP v (zeroP q a n)]) := by
  obtain ⟨n, rfl⟩ : ∃ m, n = m + 1 := ⟨n - 1, by omega⟩
  have hc : curBlk (Y ++ [bP v q]) Y.length v 1 = some (bP v q) := by simp [curBlk, bP]
  simp only [evClear, hc, if_true, set_app0, List.set_cons_zero]
  have : (q.map rB).take a ++ List.replicate (n + 1) [AV.int .u8 0] ++ (q.map rB).drop (a + (n + 1)) = (zeroP q a (n + 1)).map rB := by
    simp [zeroP, rB, List.map_take, List.map_drop]
  simp only [bP, this]
theorem fz_pageAt {K : Heap} {b v : Nat} {q : List Nat} (h : K[b]? = some (bP v q)) (hq : q.length = 128) : ∃ ids, fz K fzDepth (.ref b v 1 0 128) = some (eB q, ids) ∧ ∀ x ∈ ids, x = b := by
  have hc : curBlk K b v 1 = some (bP v q) := by simp [curBlk, h, bP]
  exact fz_blk hc (rows := q.map rB) (by show (q.map rB).take 128 = _; rw [List.take_of_length_le (by simp; omega)]) (plain_B q) 6
theorem okL_cut : ∀ {l : List Pl} {m : Nat}, okL m l → ∀ i, okL m (l.take i ++ l.drop (i + 1))
  | [], m, _, i => by simp [okL]
  | x :: l, m, h, 0 => by
    obtain ⟨h1, h2, h3, h4, h5, h6, h7⟩ := h
    simpa using okL_le (by omega) h7
  | x :: l, m, h, i + 1 => by
    obtain ⟨h1, h2, h3, h4, h5, h6, h7⟩ := h
    exact ⟨h1, h2, h3, h4, h5, h6, okL_cut h7 i⟩
theorem okL_part : ∀ {l : List Pl} {m i n : Nat} {x : Pl}, okL m l → l[i]? = some x → n % 2 = 0 → n ≤ x.2 → n ≠ x.2 → okL m (l.set i (x.1 + n, x.2 - n))
  | [], m, i, n, x, _, h, _, _, _ => by simp at h
  | y :: l, m, 0, n, x, h, hx, h0, h1, h2 => by
    simp at hx; subst hx
    obtain ⟨a1, a2, a3, a4, a5, a6, a7⟩ := h
    refine ⟨?_, ?_, ?_, ?_, ?_, ?_, ?_⟩ <;> simp only
    · omega
    · omega
    · omega
    · omega
    · omega
    · omega
    · exact okL_le (by omega) a7
  | y :: l, m, i + 1, n, x, h, hx, h0, h1, h2 => by
    obtain ⟨a1, a2, a3, a4, a5, a6, a7⟩ := h
    exact ⟨a1, a2, a3, a4, a5, a6, okL_part a7 (by simpa using hx) h0 h1 h2⟩
/-- from the cleared page on: the heads, and the answer -/
theorem take_tail (H Y : Heap) (hY : H.length ≤ Y.length) (hYt : Y.take H.length = H) (q : List Nat) (hq : q.length = 128) (bl v : Nat) (hbl : bl < Y.length) (hb0 : H.length ≤ bl) (l : List Pl) (hl : okL 2 l) (els : List (List AV)) (he : els.take l.length = l.map rPl) (hr : ∀ r ∈ els, r.length = 2) :
    ∃ Z, cal (evC cprog) false 35 [.ref Y.length 0 1 0 128, .ref bl v 2 0 l.length] ((Y ++ [bP 0 q]).set bl (bPls v els)) = some (.tup [], Z) ∧ Z[Y.length]? = some (bP 0 (chainB q l)) ∧ (∀ k, k < Y.length → k ≠ bl → Z[k]? = Y[k]?) ∧ Z.take H.length = H := by
  have hlen : (Y ++ [bP 0 q]).length = Y.length + 1 := by simp
  have hpa : PageAt ((Y ++ [bP 0 q]).set bl (bPls v els)) Y.length 0 q := ⟨by rw [List.getElem?_set_ne (by omega)]; simp, hq, by simp⟩
  have hbe : Beside ((Y ++ [bP 0 q]).set bl (bPls v els)) Y.length 2 (.ref bl v 2 0 l.length) (l.map rPl) := fun B X => by
    refine LAt.slat ⟨els, ?_, he, hr⟩
    rw [List.getElem?_append_left (by simp; omega), List.getElem?_set_ne (by omega), List.getElem?_set_self (by simp; omega)]
  have hll : l.length < 1000000 := by
    by_cases hn : l.length = 0
    · omega
    · have hx : l[l.length - 1]? = some l[l.length - 1] := List.getElem?_eq_getElem (by omega)
      have : ∀ (k : Nat) (x : Pl), l[k]? = some x → k ≤ x.1 := by
        intro k
        induction k with
        | zero => intro x _; omega
        | succ k ih =>
          intro x hx
          obtain ⟨y, hy⟩ : ∃ y, l[k]? = some y := ⟨_, List.getElem?_eq_getElem (by have := (List.getElem?_eq_some_iff.1 hx).1; omega)⟩
          have h1 := ih y hy
          have h2 := okL_lt hl (show k < k + 1 by omega) hy hx
          omega
      have h1 := this _ _ hx
      have h2 := (okL_at hl hx).le
      omega
  obtain ⟨X, hX⟩ := f35 _ Y.length 0 q hpa _ l hbe rfl hll fun x hx => ⟨(okL_mem hl hx).le, by have := (okL_mem hl hx).fit; have := (okL_mem hl hx).ge; omega⟩
  refine ⟨_, hX, ?_, fun k hk hkb => ?_, ?_⟩
  · rw [List.getElem?_append_left (by simp), List.getElem?_set_self (by simp)]
  · rw [List.getElem?_append_left (by simp; omega), List.getElem?_set_ne (by omega), List.getElem?_set_ne (by omega), List.getElem?_append_left hk]
  · rw [List.take_append_of_le_length (by simp; omega), List.take_set_of_le (by omega), List.take_set_of_le (by omega), List.take_append_of_le_length (by omega)]
    exact hYt
theorem f28 (p : List Nat) (hp : Page p) (n : Int) (H : Heap) : cal (evC cprog) true 28 [eB p, .int .i64 n] H = some (.tup [eB (takeP p n).1, .int .i64 ((takeP p n).2.1 : Int), .int .i64 (takeP p n).2.2], H) := by
  rw [cal_of at28]
  obtain ⟨rv, X, h32, hO⟩ := f32c p hp (H ++ [⟨0, true, 3, 1, [[.int .i64 n]]⟩])
  cases hok : (plAns p).2 with
  | false =>
    rw [hok] at h32
    unfold takeP
    rw [if_pos hok]
    simp only [c28, h32, evX, Int.reduceEq, Int.reduceLT, Int.reduceLE, Nat.reduceMul, Nat.reduceMod, evW, fn_eq, evR, Nat.reduceAdd, Nat.reduceLT, Nat.reduceLeDiff, reduceIte, Nat.reduceEqDiff, reduceCtorEq, argEnv, eq_self, if_true, if_false]
    repeat' ((first | rw [guardK_cases] | rw [condK_bool] | rw [guardD_cases]); split <;> simp only [c28, h32, evX, Int.reduceEq, Int.reduceLT, Int.reduceLE, Nat.reduceMul, Nat.reduceMod, evW, evR, Nat.reduceAdd, Nat.reduceLT, Nat.reduceLeDiff, reduceIte, Nat.reduceEqDiff, reduceCtorEq, argEnv, eq_self, if_true, if_false, *])
    exact frz_three (fz_nils _) rfl (by simp) (by simp) _ _ _ _
  | true =>
    rw [hok] at h32
    unfold takeP
    rw [if_neg (by rw [hok]; simp)]
    have hlen := ans_128 p hok
    by_cases hn1 : n < 1
    · rw [if_pos (.inl hn1)]
      simp only [c28, h32, hn1, evX, Int.reduceEq, Int.reduceLT, Int.reduceLE, Nat.reduceMul, Nat.reduceMod, evW, fn_eq, evR, Nat.reduceAdd, Nat.reduceLT, Nat.reduceLeDiff, reduceIte, Nat.reduceEqDiff, reduceCtorEq, argEnv, eq_self, if_true, if_false]
      repeat' ((first | rw [guardK_cases] | rw [condK_bool] | rw [guardD_cases]); split <;> simp only [c28, h32, hn1, evX, Int.reduceEq, Int.reduceLT, Int.reduceLE, Nat.reduceMul, Nat.reduceMod, evW, evR, Nat.reduceAdd, Nat.reduceLT, Nat.reduceLeDiff, reduceIte, Nat.reduceEqDiff, reduceCtorEq, argEnv, eq_self, if_true, if_false, *])
      exact frz_three (fz_nils _) rfl (by simp) (by simp) _ _ _ _
    by_cases hn2 : 126 < n
    · rw [if_pos (.inr hn2)]
      simp only [c28, h32, hn1, hn2, evX, Int.reduceEq, Int.reduceLT, Int.reduceLE, Nat.reduceMul, Nat.reduceMod, evW, fn_eq, evR, Nat.reduceAdd, Nat.reduceLT, Nat.reduceLeDiff, reduceIte, Nat.reduceEqDiff, reduceCtorEq, argEnv, eq_self, if_true, if_false]
      repeat' ((first | rw [guardK_cases] | rw [condK_bool] | rw [guardD_cases]); split <;> simp only [c28, h32, hn1, hn2, evX, Int.reduceEq, Int.reduceLT, Int.reduceLE, Nat.reduceMul, Nat.reduceMod, evW, evR, Nat.reduceAdd, Nat.reduceLT, Nat.reduceLeDiff, reduceIte, Nat.reduceEqDiff, reduceCtorEq, argEnv, eq_self, if_true, if_false, *])
      exact frz_three (fz_nils _) rfl (by simp) (by simp) _ _ _ _
    rw [if_neg (by omega)]
    obtain ⟨n, rfl⟩ : ∃ m : Nat, n = (m : Int) := ⟨n.toNat, by omega⟩
    rw [Int.toNat_natCast]
    have h40 := f40 n (by omega)
    have hlk := ans_len p
    have hokL := ans_okL p
    generalize hl : (plAns p).1 = l at *
    generalize hm : evn n = m at *
    have hm2 : m % 2 = 0 ∧ 2 ≤ m ∧ m ≤ 126 := by subst hm; unfold evn; omega
    have hS : SlAt (H ++ (bN m :: X)) 2 rv (l.map rPl) := by
      have := out_slat (H0 := H ++ [bN m]) (X := X) (n := (H ++ [bN m]).length) (by simpa [bN] using hO) rfl (fun r hr => by obtain ⟨x, _, rfl⟩ := List.mem_map.1 hr; rfl)
      simpa using this
    have h41 := indexFunc_ok (sz := 2) (ag := true) at41 rPl (fun x => .agg (rPl x)) lPl 42 [.ptr H.length 0 1 0 0] (fun x => decide (m ≤ x.2)) (H ++ (bN m :: X)) rv l hS (by omega) fun x hx => f42 x m H.length _ fun Z => by simp [at_app0]
    simp only [bN] at h41
    cases hfi : fitIx l m with
    | none =>
      have hix : idxOf (fun x : Pl => decide (m ≤ x.2)) l = -1 := by unfold idxOf; unfold fitIx at hfi; rw [hfi]
      rw [hix] at h41
      have hneg : (-1 : Int) < 0 := by omega
      simp only [c28, h32, hn1, hn2, h40, h41, hneg, scal_ptr, evX, Int.reduceEq, Int.reduceLT, Int.reduceLE, Nat.reduceMul, Nat.reduceMod, evW, fn_eq, evR, Nat.reduceAdd, Nat.reduceLT, Nat.reduceLeDiff, reduceIte, Nat.reduceEqDiff, reduceCtorEq, argEnv, eq_self, if_true, if_false]
      repeat' ((first | rw [guardK_cases] | rw [condK_bool] | rw [guardD_cases]); split <;> simp only [c28, h32, hn1, hn2, h40, h41, hneg, scal_ptr, evX, Int.reduceEq, Int.reduceLT, Int.reduceLE, Nat.reduceMul, Nat.reduceMod, evW, evR, Nat.reduceAdd, Nat.reduceLT, Nat.reduceLeDiff, reduceIte, Nat.reduceEqDiff, reduceCtorEq, argEnv, eq_self, if_true, if_false, *])
      exact frz_three (fz_nils _) rfl (by simp) (by simp) _ _ _ _
    | some i =>
      have hix : idxOf (fun x : Pl => decide (m ≤ x.2)) l = (i : Int) := by unfold idxOf; unfold fitIx at hfi; rw [hfi]
      rw [hix] at h41
      have hip := List.findIdx?_eq_some_iff_getElem.1 hfi
      obtain ⟨hil, hfit, _⟩ := hip
      have hx : l[i]? = some l[i] := List.getElem?_eq_getElem hil
      generalize l[i] = x at *
      simp only [decide_eq_true_eq] at hfit
      simp only [hx]
      have hxo := okL_at hokL hx
      obtain ⟨j, v, rfl, hXj⟩ := out_LAt hO (by intro h; rw [h] at hil; simp at hil)
      have hbl : (H ++ [⟨0, true, 3, 1, [[.int .i64 (n : Int)]]⟩] : Heap).length + j = H.length + (1 + j) := by simp; omega
      rw [hbl] at h32 h41 hS
      have hneg : ¬ (i : Int) < 0 := by omega
      obtain ⟨_, pp, hpp, hpa⟩ := hS.get i (rPl x) (by rw [List.getElem?_map, hx]; rfl)
      have hpl := hpa.agg (n := 2) rfl
      simp only [bN] at hpl
      simp only [c28, h32, hn1, hn2, h40, h41, hneg, scal_ptr, hpp, hpl, rPl, evX, Int.reduceEq, Int.reduceLT, Int.reduceLE, Nat.reduceMul, Nat.reduceMod, evW, fn_eq, evR, Nat.reduceAdd, Nat.reduceLT, Nat.reduceLeDiff, reduceIte, Nat.reduceEqDiff, reduceCtorEq, argEnv, eq_self, if_true, if_false]
      repeat' ((first | rw [guardK_cases] | rw [condK_bool] | rw [guardD_cases]); split <;> simp only [c28, h32, hn1, hn2, h40, h41, hneg, scal_ptr, hpp, hpl, rPl, evX, Int.reduceEq, Int.reduceLT, Int.reduceLE, Nat.reduceMul, Nat.reduceMod, evW, evR, Nat.reduceAdd, Nat.reduceLT, Nat.reduceLeDiff, reduceIte, Nat.reduceEqDiff, reduceCtorEq, argEnv, eq_self, if_true, if_false, *])
      obtain ⟨Y, hY⟩ : ∃ Y : Heap, Y = H ++ (⟨0, true, 3, 1, [[.int .i64 (m : Int)]]⟩ :: (X ++ [⟨0, true, 55, 2, [[.int .i64 (x.1 : Int), .int .i64 (x.2 : Int)]]⟩])) := ⟨_, rfl⟩
      rw [← hY]
      have yl : Y.length = H.length + (X.length + 2) := by rw [hY]; simp
      have y0 : ∀ Z, (Y ++ Z)[H.length]? = some ⟨0, true, 3, 1, [[.int .i64 (m : Int)]]⟩ := fun Z => by rw [hY]; simp [at_app0]
      have yx : ∀ Z, (Y ++ Z)[H.length + (X.length + 1)]? = some ⟨0, true, 55, 2, [[.int .i64 (x.1 : Int), .int .i64 (x.2 : Int)]]⟩ := fun Z => by
        rw [hY, List.append_assoc, at_app, List.cons_append, List.getElem?_cons_succ, List.append_assoc]; simp
      have hjl := (List.getElem?_eq_some_iff.1 hXj).1
      have yb : Y[H.length + (1 + j)]? = some (bPls v (l.map rPl)) := by
        rw [hY, at_app, Nat.add_comm 1 j, List.getElem?_cons_succ, List.getElem?_append_left hjl]; exact hXj
      have yt : Y.take H.length = H := by rw [hY]; simp
      clear hY
      have h39 := f39 p (by intro e; rw [e] at hlen; simp at hlen) (by omega) Y
      rw [hlen] at h39
      have hw1 := wrapA (a := x.1) (b := m) (by have := hxo.fit; omega) (by omega)
      have hfit2 : x.1 + m ≤ 128 := by have := hxo.fit; omega
      have hsl := fun K b => slcB (K := K) (b := b) (v := 0) hfit2
      have hcl := clrB (Y := Y) (v := 0) hlen hfit2 (by omega)
      have hzl : (zeroP p x.1 m).length = 128 := by rw [zeroP_len (by omega)]; exact hlen
      have hwi := wrapA1 (a := i) (by omega)
      by_cases hxm : x.2 = m
      · have hxm' : (x.2 : Int) = (m : Int) := by omega
        have h43 := delete_ref (ty := 55) (sz := 2) (bytes := 16) (zero := [.int .i64 0, .int .i64 0]) at43 rfl (H.length + (1 + j)) v (l.map rPl) (fun r hr => by obtain ⟨y, _, rfl⟩ := List.mem_map.1 hr; rfl) (Y ++ [bP 0 (zeroP p x.1 m)]) (by rw [List.getElem?_append_left (by omega)]; exact yb) i (i + 1) (by omega) (by simp; omega)
        have htl : takeL l i m = l.take i ++ l.drop (i + 1) := by unfold takeL; rw [hx]; simp only; rw [if_pos hxm]
        have hll : (takeL l i m).length = i + (l.length - (i + 1)) := by rw [htl]; simp; omega
        have hlok : okL 2 (takeL l i m) := by rw [htl]; exact okL_cut hokL i
        obtain ⟨Z, h35, hz1, hz2, hz3⟩ := take_tail H Y (by omega) yt (zeroP p x.1 m) hzl (H.length + (1 + j)) v (by omega) (by omega) (takeL l i m) hlok ((l.map rPl).take i ++ ((l.map rPl).drop (i + 1) ++ List.replicate (i + 1 - i) [.int .i64 0, .int .i64 0])) (by
            rw [← List.append_assoc, List.take_left' (by rw [hll]; simp; omega), htl]; simp) (fun r hr => by
            rcases List.mem_append.1 hr with hr | hr
            · obtain ⟨y, _, rfl⟩ := List.mem_map.1 (List.mem_of_mem_take hr); rfl
            · rcases List.mem_append.1 hr with hr | hr
              · obtain ⟨y, _, rfl⟩ := List.mem_map.1 (List.mem_of_mem_drop hr); rfl
              · rw [List.mem_replicate] at hr; rw [hr.2]; rfl)
        rw [hll] at h35
        simp only [List.length_map, bPls] at h43 h35
        have zx : Z[H.length + (X.length + 1)]? = some ⟨0, true, 55, 2, [[.int .i64 (x.1 : Int), .int .i64 (x.2 : Int)]]⟩ := by rw [hz2 _ (by omega) (by omega)]; simpa using yx []
        simp only [h39, y0, yx, hw1, hsl, asNat_cast, hcl, hxm', hwi, h43, h35, zx, evX, Int.reduceEq, Int.reduceLT, Int.reduceLE, Nat.reduceMul, Nat.reduceMod, evW, fn_eq, evR, Nat.reduceAdd, Nat.reduceLT, Nat.reduceLeDiff, reduceIte, Nat.reduceEqDiff, reduceCtorEq, argEnv, eq_self, if_true, if_false]
        repeat' ((first | rw [guardK_cases] | rw [condK_bool] | rw [guardD_cases]); split <;> simp only [h39, y0, yx, hw1, hsl, asNat_cast, hcl, hxm', hwi, h43, h35, zx, evX, Int.reduceEq, Int.reduceLT, Int.reduceLE, Nat.reduceMul, Nat.reduceMod, evW, evR, Nat.reduceAdd, Nat.reduceLT, Nat.reduceLeDiff, reduceIte, Nat.reduceEqDiff, reduceCtorEq, argEnv, eq_self, if_true, if_false, *])
        obtain ⟨ids, g1, g2⟩ := fz_pageAt hz1 (by rw [chainB_len]; exact hzl)
        exact frz_three g1 rfl hz3 (fun k hk => by have := g2 k hk; omega) _ _ _ _
      · have hxm' : ¬ (x.2 : Int) = (m : Int) := by omega
        have htl : takeL l i m = l.set i (x.1 + m, x.2 - m) := by unfold takeL; rw [hx]; simp only; rw [if_neg hxm]
        have hll : (takeL l i m).length = l.length := by rw [htl]; simp
        have hlok : okL 2 (takeL l i m) := by rw [htl]; exact okL_part hokL hx (by have := hxo.evenN; omega) (by omega) (by omega)
        have hw2 : IntKind.i64.wrap ((x.2 : Int) - (m : Int)) = ((x.2 - m : Nat) : Int) := by rw [wrap_i64 (by have := hxo.fit; omega) (by have := hxo.fit; omega)]; omega
        have hmap : (l.map rPl).set i [.int .i64 ((x.1 + m : Nat) : Int), .int .i64 ((x.2 - m : Nat) : Int)] = (takeL l i m).map rPl := by rw [htl, List.map_set]; rfl
        obtain ⟨Z, h35, hz1, hz2, hz3⟩ := take_tail H Y (by omega) yt (zeroP p x.1 m) hzl (H.length + (1 + j)) v (by omega) (by omega) (takeL l i m) hlok ((takeL l i m).map rPl) (by rw [List.take_of_length_le (by simp)]) (fun r hr => by obtain ⟨y, _, rfl⟩ := List.mem_map.1 hr; rfl)
        rw [hll] at h35
        have yb2 : ∀ Z, (Y ++ Z)[H.length + (1 + j)]? = some ⟨v, true, 55, 2, l.map rPl⟩ := fun Z => by rw [List.getElem?_append_left (by omega)]; exact yb
        have hrow : (l.map rPl)[i]? = some [.int .i64 (x.1 : Int), .int .i64 (x.2 : Int)] := by rw [List.getElem?_map, hx]; rfl
        simp only [bPls] at h35
        have zx : Z[H.length + (X.length + 1)]? = some ⟨0, true, 55, 2, [[.int .i64 (x.1 : Int), .int .i64 (x.2 : Int)]]⟩ := by rw [hz2 _ (by omega) (by omega)]; simpa using yx []
        simp only [h39, y0, yx, yb2, hrow, hmap, hil, hw1, hw2, hsl, asNat_cast, hcl, hxm', hwi, h35, zx, evX, Int.reduceEq, Int.reduceLT, Int.reduceLE, Nat.reduceMul, Nat.reduceMod, evW, fn_eq, evR, Nat.reduceAdd, Nat.reduceLT, Nat.reduceLeDiff, reduceIte, Nat.reduceEqDiff, reduceCtorEq, argEnv, eq_self, if_true, if_false]
        repeat' ((first | rw [guardK_cases] | rw [condK_bool] | rw [guardD_cases]); split <;> simp only [h39, y0, yx, yb2, hrow, hmap, hil, hw1, hw2, hsl, asNat_cast, hcl, hxm', hwi, h35, zx, evX, Int.reduceEq, Int.reduceLT, Int.reduceLE, Nat.reduceMul, Nat.reduceMod, evW, evR, Nat.reduceAdd, Nat.reduceLT, Nat.reduceLeDiff, reduceIte, Nat.reduceEqDiff, reduceCtorEq, argEnv, eq_self, if_true, if_false, *])
        obtain ⟨ids, g1, g2⟩ := fz_pageAt hz1 (by rw [chainB_len]; exact hzl)
        exact frz_three g1 rfl hz3 (fun k hk => by have := g2 k hk; omega) _ _ _ _
end Go.Proofs.Ythgcnlmmgilhjaa.Code

/- page: a page with other places, of the document. -/
set_option linter.unusedSimpArgs false
set_option linter.unusedVariables false
namespace Go.Proofs.Ythgcnlmmgilhjaa.Code
open Go.Proofs.Ythgcnlmmgilhjaa.Ev

def clr (q : List Nat) (x : Pl) : List Nat := (q.set x.1 0).set (x.1 + 1) 0
end Go.Proofs.Ythgcnlmmgilhjaa.Code

/- page: a page with other places, and Take, of the document; both takings are one. -/
set_option linter.unusedSimpArgs false
set_option linter.unusedVariables false
namespace Go.Proofs.Ythgcnlmmgilhjaa.Code
open Go.Proofs.Ythgcnlmmgilhjaa.Ev

theorem okL_len {l : List Pl} (hl : okL 2 l) : l.length ≤ 130 := by
  by_cases hn : l.length = 0
  · omega
  · have hx : l[l.length - 1]? = some l[l.length - 1] := List.getElem?_eq_getElem (by omega)
    have : ∀ (k : Nat) (x : Pl), l[k]? = some x → k ≤ x.1 := by
      intro k
      induction k with
      | zero => intro x _; omega
      | succ k ih =>
        intro x hx
        obtain ⟨y, hy⟩ : ∃ y, l[k]? = some y := ⟨_, List.getElem?_eq_getElem (by have := (List.getElem?_eq_some_iff.1 hx).1; omega)⟩
        have h1 := ih y hy
        have h2 := okL_lt hl (show k < k + 1 by omega) hy hx
        omega
    have h1 := this _ _ hx
    have h2 := (okL_at hl hx).le
    omega
end Go.Proofs.Ythgcnlmmgilhjaa.Code

/- page: Take of the document; both answer the same. -/
set_option linter.unusedSimpArgs false
set_option linter.unusedVariables false
namespace Go.Proofs.Ythgcnlmmgilhjaa.Code
open Go.Proofs.Ythgcnlmmgilhjaa.Ev

theorem pl_rows (l : List Pl) : ∀ r ∈ l.map rPl, r.length = 2 := fun r hr => by obtain ⟨y, _, rfl⟩ := List.mem_map.1 hr; rfl
theorem takeL_eq {l : List Pl} {i m : Nat} {x : Pl} (hx : l[i]? = some x) (hm : m ≤ x.2) : takeL l i m = l.take i ++ (if m < x.2 then [(x.1 + m, x.2 - m)] else []) ++ l.drop (i + 1) := by
  unfold takeL
  rw [hx]
  simp only
  by_cases h : x.2 = m
  · rw [if_pos h, if_neg (by omega), List.append_nil]
  · rw [if_neg h, if_pos (by omega), List.set_eq_take_append_cons_drop, if_pos (List.getElem?_eq_some_iff.1 hx).1]
    simp
end Go.Proofs.Ythgcnlmmgilhjaa.Code

/- page: slices.Delete of what has room behind it; slices.Insert; the places behind a giving. -/
set_option linter.unusedSimpArgs false
set_option linter.unusedVariables false
namespace Go.Proofs.Ythgcnlmmgilhjaa.Ev

theorem delete_pre {cprog : Nat → Option CFn} {f ty sz bytes : Nat} {zero : List AV} (hat : cprog f = some (cDelete ty sz bytes zero)) (hz : zero.length = sz) (b v n : Nat) (els : List (List AV)) (hn : n ≤ els.length) (hrow : ∀ r ∈ els, r.length = sz) (H : Heap)
    (hb : H[b]? = some ⟨v, true, ty, sz, els⟩) (i e : Nat) (hi : i < e) (he : e ≤ n) :
    cal (evC cprog) false f [.ref b v sz 0 n, .int .i64 (i : Int), .int .i64 (e : Int)] H = some (.ref b v sz 0 (i + (n - e)), H.set b ⟨v, true, ty, sz, els.take i ++ ((els.take n).drop e ++ (List.replicate (e - i) zero ++ els.drop n))⟩) := by
  have hcur : curBlk H b v sz = some ⟨v, true, ty, sz, els⟩ := by simp [curBlk, hb]
  have hbl : b < H.length := (List.getElem?_eq_some_iff.1 hb).1
  obtain ⟨s1, hs1, _⟩ : ∃ s, evSlc H sz (.ref b v sz 0 n) (some i) (some e) (some n) = some s ∧ True := by
    simp only [evSlc, if_true, Option.some.injEq, Option.getD_some, hcur]
    by_cases h : e = n
    · rw [if_pos ⟨h, Nat.le_refl _⟩, if_pos (by omega)]; exact ⟨_, rfl, trivial⟩
    · rw [if_neg (by simp [h]), if_pos (by omega)]; exact ⟨_, rfl, trivial⟩
  have hs2 : evSlc H sz (.ref b v sz 0 n) none (some i) none = some (.ref b v sz 0 i) := by
    simp only [evSlc, if_true, Option.getD_some, Option.getD_none]
    rw [if_pos (by omega)]; simp
  have hs3 : evSlc H sz (.ref b v sz 0 n) (some e) none none = some (.ref b v sz e (n - e)) := by
    simp only [evSlc, if_true, Option.getD_some, Option.getD_none]
    rw [if_pos (by omega)]; simp
  have hne : ¬ (i : Int) = (e : Int) := by omega
  have hap : appK ty sz bytes true H (some (.ref b v sz 0 i)) (some (.ref b v sz e (n - e))) = some (.ref b v sz 0 (i + (n - e)), H.set b ⟨v, true, ty, sz, els.take i ++ ((els.take n).drop e ++ els.drop (i + (n - e)))⟩) := by
    by_cases h : e = n
    · have h0 : n - e = 0 := by omega
      have hsame : H.set b ⟨v, true, ty, sz, els.take i ++ ((els.take n).drop e ++ els.drop (i + (n - e)))⟩ = H := by
        rw [h0, h, List.drop_eq_nil_of_le (by simp; omega : (els.take n).length ≤ n), List.nil_append, Nat.add_zero, List.take_append_drop]
        exact List.ext_getElem? fun j => by
          by_cases e : j = b
          · subst e; rw [List.getElem?_set_self hbl, hb]
          · rw [List.getElem?_set_ne (fun x => e x.symm)]
      rw [hsame, h0]
      simp [appK, srcRows, rowsOf, evApp, evLen]
    · obtain ⟨m, hm⟩ : ∃ m, n - e = m + 1 := ⟨n - e - 1, by omega⟩
      have hsrc : srcRows H (.ref b v sz e (m + 1)) = some ((els.take n).drop e) := by
        simp only [srcRows, rowsOf, hcur, Option.map_some]
        rw [List.drop_take, hm]
      have hl : ((els.take n).drop e).length = m + 1 := by rw [List.length_drop, List.length_take]; omega
      have hd : (els.take n).drop e ≠ [] := fun x => by have := congrArg List.length x; simp at this; omega
      have hemp : ((els.take n).drop e).isEmpty = false := by cases h : (els.take n).drop e <;> simp_all
      have hhd : headOk sz ((els.take n).drop e) = true := by
        cases h : (els.take n).drop e with
        | nil => rfl
        | cons r rs => simp [headOk, hrow r (List.mem_of_mem_take (List.mem_of_mem_drop (by rw [h]; exact List.mem_cons_self ..)))]
      rw [hm]
      simp only [appK, hsrc, evApp, hemp, hhd, hcur, Bool.false_eq_true, if_false, Bool.true_eq_false, and_self, if_true, hl]
      rw [if_pos ⟨trivial, by omega⟩, List.append_assoc]
  have hl1 : (els.take i ++ ((els.take n).drop e ++ els.drop (i + (n - e)))).length = els.length := by simp; omega
  have hcur1 : curBlk (H.set b ⟨v, true, ty, sz, els.take i ++ ((els.take n).drop e ++ els.drop (i + (n - e)))⟩) b v sz = some ⟨v, true, ty, sz, els.take i ++ ((els.take n).drop e ++ els.drop (i + (n - e)))⟩ := by
    simp [curBlk, List.getElem?_set_self hbl]
  have hs4 : evSlc (H.set b ⟨v, true, ty, sz, els.take i ++ ((els.take n).drop e ++ els.drop (i + (n - e)))⟩) sz (.ref b v sz 0 (i + (n - e))) (some (i + (n - e))) (some n) none = some (.ref b v sz (i + (n - e)) (e - i)) := by
    simp only [evSlc, if_true, Option.getD_some, hcur1]
    rw [if_neg (by omega), if_pos (by omega), if_pos ⟨by omega, .inr trivial⟩]
    congr 2 <;> omega
  have hcl : evClear sz zero (H.set b ⟨v, true, ty, sz, els.take i ++ ((els.take n).drop e ++ els.drop (i + (n - e)))⟩) (.ref b v sz (i + (n - e)) (e - i)) = some (H.set b ⟨v, true, ty, sz, els.take i ++ ((els.take n).drop e ++ (List.replicate (e - i) zero ++ els.drop n))⟩) := by
    obtain ⟨m, hm⟩ : ∃ m, e - i = m + 1 := ⟨e - i - 1, by omega⟩
    have ht : (els.take i ++ (els.take n).drop e).length = i + (n - e) := by simp; omega
    have hL : List.take (i + (n - e)) (els.take i ++ ((els.take n).drop e ++ els.drop (i + (n - e)))) ++ List.replicate (m + 1) zero ++ List.drop (i + (n - e) + (m + 1)) (els.take i ++ ((els.take n).drop e ++ els.drop (i + (n - e)))) = els.take i ++ ((els.take n).drop e ++ (List.replicate (m + 1) zero ++ els.drop n)) := by
      rw [← List.append_assoc, List.take_left' ht, ← List.drop_drop, List.drop_left' ht, List.drop_drop, show i + (n - e) + (m + 1) = n by omega, List.append_assoc, List.append_assoc]
    rw [hm]
    simp only [evClear, hcur1, if_true, Option.some.injEq, List.set_set, hL]
  rw [cal_of hat]
  simp only [cDelete, fn_eq, hs1, hs2, hs3, hs4, hne, hap, hcl, hz, len_ref, evX, Int.reduceEq, Int.reduceLT, Int.reduceLE, Nat.reduceMul, Nat.reduceMod, evW, evR, Nat.reduceAdd, Nat.reduceLT, Nat.reduceLeDiff, reduceIte, Nat.reduceEqDiff, reduceCtorEq, argEnv, eq_self, if_true, if_false]
  rw [gc_no _ _ _ rfl]
end Go.Proofs.Ythgcnlmmgilhjaa.Ev
namespace Go.Proofs.Ythgcnlmmgilhjaa.Code
open Go.Proofs.Ythgcnlmmgilhjaa.Ev
theorem fn_user {call it} {n : Nat} {res : List CRes} {p : List AV → Heap → Option (List AV × Heap)} (args : List AV) (H : Heap) : evFn call it ⟨n, res, .user p, false, false⟩ args H = bodyK res ((p args H).map fun r => (CX.ret, (argEnv 0 r.1, r.2))) := by
  rw [fn_eq]
  simp only [evCode, user_args]
theorem f46 (H : Heap) (b v n bv : Nat) (els : List (List AV)) (row : List AV) (hb : H[b]? = some ⟨v, true, 55, 2, els⟩) (hv : H[bv]? = some ⟨0, true, 55, 2, [row]⟩) (hne : b ≠ bv) (hn : n = els.length) (hr : n < 100000) (i : Nat) (hi : i ≤ n) :
    cal (evC cprog) false 46 [.ref b v 2 0 n, .int .i64 (i : Int), .ref bv 0 2 0 1] H = some (.ref b (v + 1) 2 0 (n + 1), H.set b ⟨v + 1, true, 55, 2, els.take i ++ row :: els.drop i⟩) := by
  rw [cal_of at46, show c46 = ⟨0, [.t 0], .user (pIns 2 55 16), false, false⟩ from rfl, fn_user]
  have hc1 : curBlk H b v 2 = some ⟨v, true, 55, 2, els⟩ := by simp [curBlk, hb]
  have hc2 : curBlk H bv 0 2 = some ⟨0, true, 55, 2, [row]⟩ := by simp [curBlk, hv]
  have h : pIns 2 55 16 [.ref b v 2 0 n, .int .i64 (i : Int), .ref bv 0 2 0 1] H = some ([.ref b (v + 1) 2 0 (n + 1)], H.set b ⟨v + 1, true, 55, 2, els.take i ++ row :: els.drop i⟩) := by
    have ht : els.take n = els := List.take_of_length_le (by omega)
    simp only [pIns, hc1, hc2, List.getElem?_cons_zero]
    rw [if_pos ⟨trivial, trivial, trivial, trivial, hne, by omega, by omega, by omega, by unfold reach; omega, by unfold reach; omega⟩, Int.toNat_natCast, ht]
  rw [h]
  simp only [evX, Int.reduceEq, Int.reduceLT, Int.reduceLE, Nat.reduceMul, Nat.reduceMod, evW, fn_eq, evR, Nat.reduceAdd, Nat.reduceLT, Nat.reduceLeDiff, reduceIte, Nat.reduceEqDiff, reduceCtorEq, argEnv, eq_self, if_true, if_false]
  repeat' ((first | rw [guardK_cases] | rw [condK_bool] | rw [guardD_cases]); split <;> simp only [evX, Int.reduceEq, Int.reduceLT, Int.reduceLE, Nat.reduceMul, Nat.reduceMod, evW, evR, Nat.reduceAdd, Nat.reduceLT, Nat.reduceLeDiff, reduceIte, Nat.reduceEqDiff, reduceCtorEq, argEnv, eq_self, if_true, if_false, *])
  rw [gc_no _ _ _ rfl]
theorem f46n (H : Heap) (bv : Nat) (row : List AV) (hv : H[bv]? = some ⟨0, true, 55, 2, [row]⟩) (a : AV) (ha : a = .nils ∨ a = .nil0) :
    cal (evC cprog) false 46 [a, .int .i64 0, .ref bv 0 2 0 1] H = some (.ref H.length 0 2 0 1, H ++ [⟨0, true, 55, 2, [row]⟩]) := by
  rw [cal_of at46, show c46 = ⟨0, [.t 0], .user (pIns 2 55 16), false, false⟩ from rfl, fn_user]
  have hc2 : curBlk H bv 0 2 = some ⟨0, true, 55, 2, [row]⟩ := by simp [curBlk, hv]
  have h : pIns 2 55 16 [a, .int .i64 0, .ref bv 0 2 0 1] H = some ([.ref H.length 0 2 0 1], H ++ [⟨0, true, 55, 2, [row]⟩]) := by
    rcases ha with rfl | rfl <;> simp [pIns, hc2]
  rw [h]
  simp only [evX, Int.reduceEq, Int.reduceLT, Int.reduceLE, Nat.reduceMul, Nat.reduceMod, evW, fn_eq, evR, Nat.reduceAdd, Nat.reduceLT, Nat.reduceLeDiff, reduceIte, Nat.reduceEqDiff, reduceCtorEq, argEnv, eq_self, if_true, if_false]
  repeat' ((first | rw [guardK_cases] | rw [condK_bool] | rw [guardD_cases]); split <;> simp only [evX, Int.reduceEq, Int.reduceLT, Int.reduceLE, Nat.reduceMul, Nat.reduceMod, evW, evR, Nat.reduceAdd, Nat.reduceLT, Nat.reduceLeDiff, reduceIte, Nat.reduceEqDiff, reduceCtorEq, argEnv, eq_self, if_true, if_false, *])
/- the places behind a giving -/
def givN (l : List Pl) (e : Nat) : Option Pl × List Pl := match l with
  | y :: C => if y.1 = e then (some y, C) else (none, y :: C)
  | [] => (none, [])
def giv : List Pl → Nat → Nat → List Pl × Option Pl × Option Pl × List Pl
  | [], _, _ => ([], none, none, [])
  | x :: l, a, e => if x.1 + x.2 < a then (x :: (giv l a e).1, (giv l a e).2) else if x.1 + x.2 = a then ([], some x, givN l e) else ([], none, givN (x :: l) e)
def gFrom (o : Option Pl) (a : Nat) : Nat := match o with
  | some x => x.1
  | none => a
def gTo (o : Option Pl) (e : Nat) : Nat := match o with
  | some y => y.1 + y.2
  | none => e
structure Giv (l : List Pl) (a e : Nat) (A : List Pl) (pv nv : Option Pl) (C : List Pl) : Prop where
  eq : l = A ++ (pv.toList ++ (nv.toList ++ C))
  pvE : ∀ x, pv = some x → x.1 + x.2 = a
  nvE : ∀ y, nv = some y → y.1 = e
  lo : ∀ x ∈ A, x.1 + x.2 < gFrom pv a
  hi : ∀ y ∈ C, gTo nv e < y.1
theorem givN_ok {l : List Pl} {m e : Nat} (h : okL m l) (hx : ∀ x ∈ l, e ≤ x.1) : l = (givN l e).1.toList ++ (givN l e).2 ∧ (∀ y, (givN l e).1 = some y → y.1 = e) ∧ ∀ y ∈ (givN l e).2, gTo (givN l e).1 e < y.1 := by
  cases l with
  | nil => exact ⟨rfl, (fun y h => by cases h), (fun y h => by cases h)⟩
  | cons x l =>
    obtain ⟨h1, h2, h3, h4, h5, h6, h7⟩ := h
    unfold givN
    simp only
    by_cases he : x.1 = e
    · rw [if_pos he]
      exact ⟨rfl, (fun y hy => by cases hy; exact he), fun y hy => by have := (okL_mem h7 hy).ge; simp only [gTo]; omega⟩
    · rw [if_neg he]
      refine ⟨rfl, (fun y hy => by cases hy), fun y hy => ?_⟩
      have h0 := hx x (List.mem_cons_self ..)
      simp only [gTo]
      rcases List.mem_cons.1 hy with rfl | hy
      · omega
      · have := (okL_mem h7 hy).ge; omega
theorem giv_ok {a e : Nat} (hae : a < e) : ∀ {l : List Pl} {m : Nat}, okL m l → (∀ x ∈ l, x.1 + x.2 ≤ a ∨ e ≤ x.1) → Giv l a e (giv l a e).1 (giv l a e).2.1 (giv l a e).2.2.1 (giv l a e).2.2.2
  | [], m, _, _ => ⟨rfl, fun x h => (by cases h), fun x h => (by cases h), fun x h => (by cases h), fun x h => (by cases h)⟩
  | x :: l, m, h, hx => by
    have h' := h
    obtain ⟨h1, h2, h3, h4, h5, h6, h7⟩ := h
    have h0 := hx x (List.mem_cons_self ..)
    unfold giv
    by_cases c1 : x.1 + x.2 < a
    · rw [if_pos c1]
      have g := giv_ok hae h7 fun y hy => hx y (List.mem_cons_of_mem _ hy)
      refine ⟨by rw [List.cons_append, ← g.eq], g.pvE, g.nvE, fun y hy => ?_, g.hi⟩
      rcases List.mem_cons.1 hy with rfl | hy
      · cases hp : (giv l a e).2.1 with
        | none => exact c1
        | some z =>
          have : z ∈ l := by rw [g.eq, hp]; simp
          have := (okL_mem h7 this).ge
          show _ < z.1
          omega
      · exact g.lo y hy
    · rw [if_neg c1]
      by_cases c2 : x.1 + x.2 = a
      · rw [if_pos c2]
        obtain ⟨g1, g2, g3⟩ := givN_ok h7 (e := e) fun y hy => by
          have := hx y (List.mem_cons_of_mem _ hy)
          have := (okL_mem h7 hy).ge
          have := (okL_mem h7 hy).two
          omega
        exact ⟨by simp only [List.nil_append, Option.toList_some, List.cons_append]; rw [← g1], (fun y hy => by cases hy; exact c2), g2, (fun y hy => by cases hy), g3⟩
      · rw [if_neg c2]
        obtain ⟨g1, g2, g3⟩ := givN_ok h' (e := e) fun y hy => by
          rcases List.mem_cons.1 hy with rfl | hy
          · omega
          · have := (okL_mem h7 hy).ge
            omega
        exact ⟨by simp only [List.nil_append, Option.toList_none]; exact g1, (fun y hy => by cases hy), g2, (fun y hy => by cases hy), g3⟩
def giveL (l : List Pl) (a e : Nat) : List Pl := (giv l a e).1 ++ ((gFrom (giv l a e).2.1 a, gTo (giv l a e).2.2.1 e - gFrom (giv l a e).2.1 a) :: (giv l a e).2.2.2)
theorem okL_app {A : List Pl} : ∀ {m : Nat} {B : List Pl}, okL m (A ++ B) ↔ okL m A ∧ okL m B ∧ (∀ x ∈ A, ∀ y ∈ B, x.1 + x.2 + 1 ≤ y.1) := by
  induction A with
  | nil => intro m B; simp [okL]
  | cons x A ih =>
    intro m B
    rw [List.cons_append]
    constructor
    · rintro ⟨h1, h2, h3, h4, h5, h6, h7⟩
      obtain ⟨i1, i2, i3⟩ := ih.1 h7
      refine ⟨⟨h1, h2, h3, h4, h5, h6, i1⟩, okL_le (by omega) i2, fun y hy z hz => ?_⟩
      rcases List.mem_cons.1 hy with rfl | hy
      · exact (okL_mem i2 hz).ge
      · exact i3 y hy z hz
    · rintro ⟨⟨h1, h2, h3, h4, h5, h6, h7⟩, hB, hx⟩
      refine ⟨h1, h2, h3, h4, h5, h6, ih.2 ⟨h7, ?_, fun y hy => hx y (List.mem_cons_of_mem _ hy)⟩⟩
      cases B with
      | nil => trivial
      | cons z B =>
        obtain ⟨g1, g2⟩ := hB
        exact ⟨hx x (List.mem_cons_self ..) z (List.mem_cons_self ..), g2⟩
end Go.Proofs.Ythgcnlmmgilhjaa.Code

/- page: the page behind a giving: one page, two ways. -/
set_option linter.unusedSimpArgs false
set_option linter.unusedVariables false
namespace Go.Proofs.Ythgcnlmmgilhjaa.Code
open Go.Proofs.Ythgcnlmmgilhjaa.Ev

structure GivAt (l : List Pl) (a e : Nat) (A : List Pl) (pv nv : Option Pl) (C : List Pl) : Prop extends Giv l a e A pv nv C where
  okl : okL 2 l
  ge : 2 ≤ a
  le : e ≤ 128
  lt : a + 2 ≤ e
  ea : a % 2 = 0
  ee : e % 2 = 0
variable {l : List Pl} {a e : Nat} {A : List Pl} {pv nv : Option Pl} {C : List Pl}
theorem GivAt.pm (g : GivAt l a e A pv nv C) {x : Pl} (h : pv = some x) : x ∈ l := by rw [g.eq, h]; simp
theorem GivAt.nm (g : GivAt l a e A pv nv C) {x : Pl} (h : nv = some x) : x ∈ l := by rw [g.eq, h]; simp
theorem GivAt.from_le (g : GivAt l a e A pv nv C) : 2 ≤ gFrom pv a ∧ gFrom pv a ≤ a ∧ gFrom pv a % 2 = 0 := by
  have := g.ge
  have := g.ea
  cases h : pv with
  | none => exact ⟨g.ge, Nat.le_refl _, g.ea⟩
  | some x =>
    have h1 := okL_mem g.okl (g.pm h)
    have := h1.ge
    have := h1.even
    have := g.pvE x h
    exact ⟨h1.ge, by simp only [gFrom]; omega, h1.even⟩
theorem GivAt.to_ge (g : GivAt l a e A pv nv C) : gTo nv e ≤ 128 ∧ e ≤ gTo nv e ∧ gTo nv e % 2 = 0 := by
  have := g.le
  have := g.ee
  cases h : nv with
  | none => exact ⟨g.le, Nat.le_refl _, g.ee⟩
  | some x =>
    have h1 := okL_mem g.okl (g.nm h)
    have := h1.even
    have := h1.evenN
    have := h1.fit
    have := g.nvE x h
    simp only [gTo]
    omega
def gL (A : List Pl) (pv nv : Option Pl) (C : List Pl) (a e : Nat) : List Pl := A ++ ((gFrom pv a, gTo nv e - gFrom pv a) :: C)
theorem GivAt.okG (g : GivAt l a e A pv nv C) : okL 2 (gL A pv nv C a e) := by
  have h1 := g.from_le
  have h2 := g.to_ge
  have h3 := g.lt
  have h4 := g.le
  have hl := g.okl
  rw [g.eq] at hl
  obtain ⟨a1, a2, a3⟩ := okL_app.1 hl
  obtain ⟨_, a4, _⟩ := okL_app.1 a2
  obtain ⟨_, a5, _⟩ := okL_app.1 a4
  refine okL_app.2 ⟨a1, ⟨by omega, by omega, by omega, by omega, by omega, by omega, ?_⟩, fun x hx y hy => ?_⟩
  · have hhi := g.hi
    cases C with
    | nil => trivial
    | cons y C =>
      obtain ⟨g1, g2⟩ := a5
      exact ⟨by have := hhi y (List.mem_cons_self ..); omega, g2⟩
  · have hlo := g.lo x hx
    rcases List.mem_cons.1 hy with rfl | hy
    · exact hlo
    · have := g.hi y hy
      omega
/-- the page that is cleared -/
def gQ (p : List Nat) (nv : Option Pl) (a e : Nat) : List Nat := match nv with
  | some y => zeroP (zeroP p a (e - a)) y.1 2
  | none => zeroP p a (e - a)
/-- how many stand in front -/
def gI (A : List Pl) (pv : Option Pl) : Nat := A.length + pv.toList.length
theorem GivAt.front (g : GivAt l a e A pv nv C) {k : Nat} {x : Pl} (hx : l[k]? = some x) : x.1 < a ↔ k < gI A pv := by
  have h1 := g.from_le
  have h3 := g.lt
  have h2 := g.to_ge
  have e0 := g.eq
  rw [g.eq, ← List.append_assoc] at hx
  unfold gI
  rw [← List.length_append]
  constructor
  · intro h
    apply Classical.byContradiction
    intro hk
    rw [List.getElem?_append_right (by omega)] at hx
    have := List.mem_of_getElem? hx
    simp only [List.mem_append, Option.mem_toList] at this
    rcases this with h5 | h5
    · have := g.nvE x h5; omega
    · have := g.hi x h5; omega
  · intro h
    rw [List.getElem?_append_left h] at hx
    have := List.mem_of_getElem? hx
    simp only [List.mem_append, Option.mem_toList] at this
    rcases this with h5 | h5
    · have := g.lo x h5; have h6 : 0 ≤ x.2 := Nat.zero_le _; omega
    · have := g.pvE x h5
      have := (okL_mem g.okl (g.pm h5)).two
      omega
theorem GivAt.gi_le (g : GivAt l a e A pv nv C) : gI A pv ≤ l.length := by rw [g.eq]; simp [gI]
theorem GivAt.take (g : GivAt l a e A pv nv C) : l.take (gI A pv) = A ++ pv.toList := by
  rw [g.eq, ← List.append_assoc]
  exact List.take_left' (by simp [gI])
theorem GivAt.drop (g : GivAt l a e A pv nv C) : l.drop (gI A pv) = nv.toList ++ C := by
  rw [g.eq, ← List.append_assoc]
  exact List.drop_left' (by simp [gI])
def giveOk (l : List Pl) (a n : Int) : Bool := decide (withinOk a n) && decide (a % 2 = 0) && usedAns l a.toNat (evn n.toNat)
theorem givAt_of {l : List Pl} (hl : okL 2 l) {a n : Nat} (h : giveOk l a n = true) : GivAt l a (a + evn n) (giv l a (a + evn n)).1 (giv l a (a + evn n)).2.1 (giv l a (a + evn n)).2.2.1 (giv l a (a + evn n)).2.2.2 := by
  simp only [giveOk, Bool.and_eq_true, decide_eq_true_eq, Int.toNat_natCast] at h
  obtain ⟨⟨⟨h1, h2, h3, h4⟩, h5⟩, h6⟩ := h
  have hn : n ≤ evn n ∧ evn n ≤ n + 1 ∧ evn n % 2 = 0 := by unfold evn; omega
  have hu : ∀ x ∈ l, x.1 + x.2 ≤ a ∨ a + evn n ≤ x.1 := fun x hx => by
    simp only [usedAns, Bool.not_eq_true', List.any_eq_false] at h6
    have := h6 x hx
    simp only [meets, Bool.and_eq_true, decide_eq_true_eq] at this
    omega
  exact ⟨giv_ok (by omega) hl hu, hl, by omega, by omega, by omega, by omega, by omega⟩
def giveP (p : List Nat) (a n : Int) : List Nat × Int :=
  if (plAns p).2 = false then ([], 70) else if giveOk (plAns p).1 a n = false then ([], 2) else
  (chainB (gQ p (giv (plAns p).1 a.toNat (a.toNat + evn n.toNat)).2.2.1 a.toNat (a.toNat + evn n.toNat)) (giveL (plAns p).1 a.toNat (a.toNat + evn n.toNat)), 0)
end Go.Proofs.Ythgcnlmmgilhjaa.Code

/- page: Give, of the program: what stands in memory. -/
set_option linter.unusedSimpArgs false
set_option linter.unusedVariables false
namespace Go.Proofs.Ythgcnlmmgilhjaa.Code
open Go.Proofs.Ythgcnlmmgilhjaa.Ev

structure GSt (H K : Heap) (yl b v : Nat) (q : List Nat) (els : List (List AV)) (L : List Pl) : Prop where
  hb : H.length ≤ b
  hy : H.length ≤ yl
  ne : b ≠ yl
  Ky : K[yl]? = some (bP 0 q)
  Kb : K[b]? = some ⟨v, true, 55, 2, els⟩
  q128 : q.length = 128
  tk : els.take L.length = L.map rPl
  ln : L.length ≤ els.length
  rows : ∀ r ∈ els, r.length = 2
  top : K.take H.length = H
variable {H K : Heap} {yl b v : Nat} {q : List Nat} {els : List (List AV)} {L : List Pl}
theorem GSt.row (g : GSt H K yl b v q els L) {i : Nat} {x : Pl} (hx : L[i]? = some x) : els[i]? = some [.int .i64 (x.1 : Int), .int .i64 (x.2 : Int)] := by
  have hi := (List.getElem?_eq_some_iff.1 hx).1
  have : (els.take L.length)[i]? = some (rPl x) := by rw [g.tk, List.getElem?_map, hx]; rfl
  rw [List.getElem?_take, if_pos hi] at this
  exact this
theorem GSt.clr (g : GSt H K yl b v q els L) {a n : Nat} (h : a + n ≤ 128) (h0 : 0 < n) : ∃ K1, evClear 1 [.int .u8 0] K (.ref yl 0 1 a n) = some K1 ∧ GSt H K1 yl b v (zeroP q a n) els L := by
  have hyl := (List.getElem?_eq_some_iff.1 g.Ky).1
  obtain ⟨n, rfl⟩ : ∃ m, n = m + 1 := ⟨n - 1, by omega⟩
  have hc : curBlk K yl 0 1 = some (bP 0 q) := by simp [curBlk, g.Ky, bP]
  have hz : (q.map rB).take a ++ List.replicate (n + 1) [AV.int .u8 0] ++ (q.map rB).drop (a + (n + 1)) = (zeroP q a (n + 1)).map rB := by
    simp [zeroP, rB, List.map_take, List.map_drop]
  refine ⟨K.set yl (bP 0 (zeroP q a (n + 1))), ?_, g.hb, g.hy, g.ne, by rw [List.getElem?_set_self hyl], by rw [List.getElem?_set_ne (Ne.symm g.ne)]; exact g.Kb, by rw [zeroP_len (by rw [g.q128]; omega), g.q128], g.tk, g.ln, g.rows, by rw [List.take_set_of_le g.hy]; exact g.top⟩
  simp only [evClear, hc, if_true]
  simp only [bP, hz]
theorem GSt.upd (g : GSt H K yl b v q els L) {i : Nat} (x' : Pl) : GSt H (K.set b ⟨v, true, 55, 2, els.set i [.int .i64 (x'.1 : Int), .int .i64 (x'.2 : Int)]⟩) yl b v q (els.set i [.int .i64 (x'.1 : Int), .int .i64 (x'.2 : Int)]) (L.set i x') := by
  have hbl := (List.getElem?_eq_some_iff.1 g.Kb).1
  refine ⟨g.hb, g.hy, g.ne, by rw [List.getElem?_set_ne g.ne]; exact g.Ky, by rw [List.getElem?_set_self hbl], g.q128, ?_, by simpa using g.ln, fun r hr => ?_, by rw [List.take_set_of_le g.hb]; exact g.top⟩
  · rw [List.length_set, List.take_set, g.tk, List.map_set]; rfl
  · rcases List.mem_or_eq_of_mem_set hr with h | rfl
    · exact g.rows r h
    · rfl
theorem GSt.del (g : GSt H K yl b v q els L) {i : Nat} (hi : i < L.length) : ∃ K1 els1, cal (evC cprog) false 43 [.ref b v 2 0 L.length, .int .i64 (i : Int), .int .i64 ((i + 1 : Nat) : Int)] K = some (.ref b v 2 0 (i + (L.length - (i + 1))), K1) ∧ GSt H K1 yl b v q els1 (L.take i ++ L.drop (i + 1)) := by
  have hbl := (List.getElem?_eq_some_iff.1 g.Kb).1
  have h := delete_pre (ty := 55) (sz := 2) (bytes := 16) (zero := [.int .i64 0, .int .i64 0]) at43 rfl b v L.length els g.ln g.rows K g.Kb i (i + 1) (by omega) (by omega)
  refine ⟨_, _, h, g.hb, g.hy, g.ne, by rw [List.getElem?_set_ne g.ne]; exact g.Ky, by rw [List.getElem?_set_self hbl], g.q128, ?_, ?_, fun r hr => ?_, by rw [List.take_set_of_le g.hb]; exact g.top⟩
  · have hti : els.take i = (L.map rPl).take i := by rw [← g.tk, List.take_take, Nat.min_eq_left (by omega)]
    rw [g.tk, hti, ← List.append_assoc, List.take_left' (by simp), List.map_append, List.map_take, List.map_drop]
  · have := g.ln
    simp; omega
  · rcases List.mem_append.1 hr with hr | hr
    · exact g.rows r (List.mem_of_mem_take hr)
    · rcases List.mem_append.1 hr with hr | hr
      · exact g.rows r (List.mem_of_mem_take (List.mem_of_mem_drop hr))
      · rcases List.mem_append.1 hr with hr | hr
        · rw [List.mem_replicate] at hr; rw [hr.2]; rfl
        · exact g.rows r (List.mem_of_mem_drop hr)
theorem GSt.tail (g : GSt H K yl b v q els L) (hl : okL 2 L) : ∃ Z, cal (evC cprog) false 35 [.ref yl 0 1 0 128, .ref b v 2 0 L.length] K = some (.tup [], Z) ∧ Z[yl]? = some (bP 0 (chainB q L)) ∧ Z.take H.length = H := by
  have hbl := (List.getElem?_eq_some_iff.1 g.Kb).1
  have hyl := (List.getElem?_eq_some_iff.1 g.Ky).1
  have hpa : PageAt K yl 0 q := ⟨g.Ky, g.q128, hyl⟩
  have hbe : Beside K yl 2 (.ref b v 2 0 L.length) (L.map rPl) := fun B X => by
    refine LAt.slat ⟨els, ?_, g.tk, g.rows⟩
    rw [List.getElem?_append_left (by simpa using hbl), List.getElem?_set_ne (Ne.symm g.ne)]; exact g.Kb
  obtain ⟨X, hX⟩ := f35 _ yl 0 q hpa _ L hbe rfl (by have := okL_len hl; omega) fun x hx => ⟨(okL_mem hl hx).le, by have := (okL_mem hl hx).fit; have := (okL_mem hl hx).ge; omega⟩
  refine ⟨_, hX, ?_, ?_⟩
  · rw [List.getElem?_append_left (by simpa using hyl), List.getElem?_set_self hyl]
  · rw [List.take_append_of_le_length (by have := g.hy; simp; omega), List.take_set_of_le g.hy]; exact g.top
theorem l30 (l : List Pl) (lv : AV) (K : Heap) (hs : SlAt K 2 lv (l.map rPl)) (hll : l.length < 1000000) (a : Nat) (m : Int) (qv : AV) (gi : Nat) (hgi : gi ≤ l.length) (hfr : ∀ k x, l[k]? = some x → (x.1 < a ↔ k < gi)) (st : St)
    (hE : keepEnv st.1 [1, 2, 8, 10, 11] = [(1, .int .i64 (a : Int)), (2, .int .i64 m), (8, lv), (10, qv), (11, .int .i64 0)]) (hH : st.2 = K)
    (z : Option (CX × St)) (hz : itLim (evCode (evC cprog) itLim c30_l0) st = z) : ∃ T, z = some (.exit 1, T, K) ∧ keepEnv T [1, 2, 8, 10, 11] = [(1, .int .i64 (a : Int)), (2, .int .i64 m), (8, lv), (10, qv), (11, .int .i64 (gi : Int))] := by
  have hlen := hs.len
  simp only [List.length_map] at hlen
  have L := loop_rule (σ := Nat) (m := [1, 2, 8, 10, 11]) (env := fun i => [(1, .int .i64 (a : Int)), (2, .int .i64 m), (8, lv), (10, qv), (11, .int .i64 (i : Int))]) (hp := fun _ => K)
    (P := fun _ r => ∃ T, r = (.exit 1, T, K) ∧ keepEnv T [1, 2, 8, 10, 11] = [(1, .int .i64 (a : Int)), (2, .int .i64 m), (8, lv), (10, qv), (11, .int .i64 (gi : Int))])
    (mu := fun i => gi - i) (I := fun i => i ≤ gi) (evCode (evC cprog) itLim c30_l0) ?_ 0 st (Nat.zero_le _) hE hH z hz
  · obtain ⟨_, rfl, T, rfl, h⟩ := L
    exact ⟨T, rfl, h⟩
  · intro i hi E hE
    by_cases hlt : i < l.length
    · obtain ⟨x, hx⟩ : ∃ x, l[i]? = some x := ⟨_, List.getElem?_eq_getElem hlt⟩
      have hii : (i : Int) < (l.length : Int) := by omega
      obtain ⟨_, pp, hpp, hpa⟩ := hs.get i (rPl x) (by rw [List.getElem?_map, hx]; rfl)
      have c0 := hpa.fld 0 1
      have cf := hpa.faddr 0
      simp only [rPl, List.getElem?_cons_zero] at c0
      have hwi := wrapA1 (a := i) (by omega)
      by_cases hxa : x.1 < a
      · have hig := (hfr i x hx).1 hxa
        have hxa' : (x.1 : Int) < (a : Int) := by omega
        simp only [c30_l0, hE, hii, hlen, hpp, cf, c0, hxa', hwi, evX, Int.reduceEq, Int.reduceLT, Int.reduceLE, Nat.reduceMul, Nat.reduceMod, evW, fn_eq, evR, Nat.reduceAdd, Nat.reduceLT, Nat.reduceLeDiff, reduceIte, Nat.reduceEqDiff, reduceCtorEq, argEnv, eq_self, if_true, if_false]
        repeat' ((first | rw [guardK_cases] | rw [condK_bool] | rw [guardD_cases]); split <;> simp only [c30_l0, hE, hii, hlen, hpp, cf, c0, hxa', hwi, evX, Int.reduceEq, Int.reduceLT, Int.reduceLE, Nat.reduceMul, Nat.reduceMod, evW, evR, Nat.reduceAdd, Nat.reduceLT, Nat.reduceLeDiff, reduceIte, Nat.reduceEqDiff, reduceCtorEq, argEnv, eq_self, if_true, if_false, *])
        exact q_next (i + 1) (by rfl) rfl (by omega) (by omega) fun r h => h
      · have hig : ¬ i < gi := fun h => hxa ((hfr i x hx).2 h)
        have hxa' : ¬ (x.1 : Int) < (a : Int) := by omega
        have : i = gi := by omega
        subst this
        simp only [c30_l0, hE, hii, hlen, hpp, cf, c0, hxa', evX, Int.reduceEq, Int.reduceLT, Int.reduceLE, Nat.reduceMul, Nat.reduceMod, evW, fn_eq, evR, Nat.reduceAdd, Nat.reduceLT, Nat.reduceLeDiff, reduceIte, Nat.reduceEqDiff, reduceCtorEq, argEnv, eq_self, if_true, if_false]
        repeat' ((first | rw [guardK_cases] | rw [condK_bool] | rw [guardD_cases]); split <;> simp only [c30_l0, hE, hii, hlen, hpp, cf, c0, hxa', evX, Int.reduceEq, Int.reduceLT, Int.reduceLE, Nat.reduceMul, Nat.reduceMod, evW, evR, Nat.reduceAdd, Nat.reduceLT, Nat.reduceLeDiff, reduceIte, Nat.reduceEqDiff, reduceCtorEq, argEnv, eq_self, if_true, if_false, *])
        exact q_exit ⟨_, rfl, by rfl⟩
    · have hii : ¬ (i : Int) < (l.length : Int) := by omega
      have : i = gi := by omega
      subst this
      simp only [c30_l0, hE, hii, hlen, evX, Int.reduceEq, Int.reduceLT, Int.reduceLE, Nat.reduceMul, Nat.reduceMod, evW, fn_eq, evR, Nat.reduceAdd, Nat.reduceLT, Nat.reduceLeDiff, reduceIte, Nat.reduceEqDiff, reduceCtorEq, argEnv, eq_self, if_true, if_false]
      repeat' ((first | rw [guardK_cases] | rw [condK_bool] | rw [guardD_cases]); split <;> simp only [c30_l0, hE, hii, hlen, evX, Int.reduceEq, Int.reduceLT, Int.reduceLE, Nat.reduceMul, Nat.reduceMod, evW, evR, Nat.reduceAdd, Nat.reduceLT, Nat.reduceLeDiff, reduceIte, Nat.reduceEqDiff, reduceCtorEq, argEnv, eq_self, if_true, if_false, *])
      exact q_exit ⟨_, rfl, by rfl⟩
/-- the insertion -/
theorem ins30 (H X : Heap) (rv : AV) (l : List Pl) (hO : Out H.length 2 55 X rv (l.map rPl)) (hl : l.length ≤ 1000) (q : List Nat) (hq : q.length = 128) (x : Pl) (i : Nat) (hi : i ≤ l.length) :
    ∃ b v K els, cal (evC cprog) false 46 [rv, .int .i64 (i : Int), .ref (H.length + (X.length + 1)) 0 2 0 1] (H ++ (X ++ [bP 0 q, ⟨0, true, 55, 2, [[.int .i64 (x.1 : Int), .int .i64 (x.2 : Int)]]⟩])) = some (.ref b v 2 0 (l.length + 1), K) ∧ GSt H K (H.length + X.length) b v q els (l.take i ++ x :: l.drop i) := by
  obtain ⟨Y, hY⟩ : ∃ Y : Heap, Y = H ++ (X ++ [bP 0 q, ⟨0, true, 55, 2, [[.int .i64 (x.1 : Int), .int .i64 (x.2 : Int)]]⟩]) := ⟨_, rfl⟩
  rw [← hY]
  have y1 : Y[H.length + (X.length + 1)]? = some ⟨0, true, 55, 2, [[.int .i64 (x.1 : Int), .int .i64 (x.2 : Int)]]⟩ := by rw [hY, at_app, at_app]; rfl
  have y0 : Y[H.length + X.length]? = some (bP 0 q) := by rw [hY, at_app, show X.length = X.length + 0 from rfl, at_app]; rfl
  have yl : Y.length = H.length + X.length + 2 := by rw [hY]; simp; omega
  have yt : Y.take H.length = H := by rw [hY]; simp
  have yx : ∀ j k, X[j]? = some k → Y[H.length + j]? = some k := fun j k h => by
    rw [hY, at_app, List.getElem?_append_left (List.getElem?_eq_some_iff.1 h).1]; exact h
  clear hY
  by_cases hne : l = []
  · subst hne
    have hi0 : i = 0 := by simpa using hi
    subst hi0
    have hrv : rv = .nils ∨ rv = .nil0 := by
      rcases hO with ⟨_, h⟩ | ⟨h, _⟩
      · exact h
      · exact absurd rfl h
    refine ⟨Y.length, 0, _, [[.int .i64 (x.1 : Int), .int .i64 (x.2 : Int)]], f46n Y _ _ y1 rv hrv, by omega, by omega, by omega, ?_, by rw [List.getElem?_append_right (Nat.le_refl _), Nat.sub_self]; rfl, hq, rfl, by simp, by simp, ?_⟩
    · rw [List.getElem?_append_left (by omega)]; exact y0
    · rw [List.take_append_of_le_length (by omega)]; exact yt
  · obtain ⟨j, v, rfl, hXj⟩ := out_LAt hO hne
    have hjl := (List.getElem?_eq_some_iff.1 hXj).1
    have hyj := yx j _ hXj
    simp only [bPls] at hyj
    refine ⟨_, _, _, (l.map rPl).take i ++ [.int .i64 (x.1 : Int), .int .i64 (x.2 : Int)] :: (l.map rPl).drop i, f46 Y (H.length + j) v l.length (H.length + (X.length + 1)) (l.map rPl) _ hyj y1 (by omega) (by simp) (by omega) i hi, by omega, by omega, by omega, ?_, ?_, hq, ?_, ?_, fun r hr => ?_, ?_⟩
    · rw [List.getElem?_set_ne (by omega)]; exact y0
    · rw [List.getElem?_set_self (by omega)]
    · rw [List.take_of_length_le (by simp)]; simp [rPl, List.map_take, List.map_drop]
    · simp
    · have : r ∈ (l.take i ++ x :: l.drop i).map rPl := by simpa [rPl, List.map_take, List.map_drop] using hr
      obtain ⟨y, _, rfl⟩ := List.mem_map.1 this; rfl
    · rw [List.take_set_of_le (by omega)]; exact yt
end Go.Proofs.Ythgcnlmmgilhjaa.Code

/- page: Give, of the program: the walk. -/
set_option linter.unusedSimpArgs false
set_option linter.unusedVariables false
namespace Go.Proofs.Ythgcnlmmgilhjaa.Code
open Go.Proofs.Ythgcnlmmgilhjaa.Ev

theorem evn_le {n : Nat} : evn n ≤ n + 1 ∧ n ≤ evn n ∧ evn n % 2 = 0 := by unfold evn; omega
/-- one element over two, then the other gone -/
theorem merge_next (B : List Pl) (x y x' : Pl) (C : List Pl) : ((B ++ x :: y :: C).set B.length x').take (B.length + 1) ++ ((B ++ x :: y :: C).set B.length x').drop (B.length + 1 + 1) = B ++ x' :: C := by
  rw [List.set_append_right _ _ (Nat.le_refl _), Nat.sub_self, List.set_cons_zero]
  have e1 : B ++ x' :: y :: C = (B ++ [x']) ++ (y :: C) := by simp
  have e2 : B ++ x' :: y :: C = (B ++ [x', y]) ++ C := by simp
  rw [show (B ++ x' :: y :: C).take (B.length + 1) = B ++ [x'] by rw [e1]; exact List.take_left' (by simp), show (B ++ x' :: y :: C).drop (B.length + 1 + 1) = C by rw [e2]; exact List.drop_left' (by simp)]
  simp
theorem at_mid (B : List Pl) (x : Pl) (C : List Pl) : (B ++ x :: C)[B.length]? = some x := by simp
theorem at_mid1 (B : List Pl) (x y : Pl) (C : List Pl) : (B ++ x :: y :: C)[B.length + 1]? = some y := by simp
theorem f30e (p : List Nat) (hp : Page p) (a n : Int) (H : Heap) (h : (plAns p).2 = false ∨ giveOk (plAns p).1 a n = false) : cal (evC cprog) true 30 [eB p, .int .i64 a, .int .i64 n] H = some (.tup [eB (giveP p a n).1, .int .i64 (giveP p a n).2], H) := by
  rw [cal_of at30]
  obtain ⟨rv, X, h32, hO⟩ := f32c p hp H
  have h36 := fun H => f36 a n H
  cases hok : (plAns p).2 with
  | false =>
    rw [hok] at h32
    unfold giveP
    rw [if_pos hok]
    simp only [c30, h32, evX, Int.reduceEq, Int.reduceLT, Int.reduceLE, Nat.reduceMul, Nat.reduceMod, evW, fn_eq, evR, Nat.reduceAdd, Nat.reduceLT, Nat.reduceLeDiff, reduceIte, Nat.reduceEqDiff, reduceCtorEq, argEnv, eq_self, if_true, if_false]
    repeat' ((first | rw [guardK_cases] | rw [condK_bool] | rw [guardD_cases]); split <;> simp only [c30, h32, evX, Int.reduceEq, Int.reduceLT, Int.reduceLE, Nat.reduceMul, Nat.reduceMod, evW, evR, Nat.reduceAdd, Nat.reduceLT, Nat.reduceLeDiff, reduceIte, Nat.reduceEqDiff, reduceCtorEq, argEnv, eq_self, if_true, if_false, *])
    exact frz_two (fz_nils _) rfl (by simp) (by simp) _ _
  | true =>
    rw [hok] at h32
    have hg : giveOk (plAns p).1 a n = false := by
      rcases h with h | h
      · rw [hok] at h; cases h
      · exact h
    unfold giveP
    rw [if_neg (by rw [hok]; simp), if_pos hg]
    by_cases hw : withinOk a n
    · obtain ⟨h1, h2, h3, h4⟩ := hw
      obtain ⟨a, rfl⟩ : ∃ m : Nat, a = (m : Int) := ⟨a.toNat, by omega⟩
      obtain ⟨n, rfl⟩ : ∃ m : Nat, n = (m : Int) := ⟨n.toNat, by omega⟩
      have hw : withinOk (a : Int) (n : Int) := ⟨h1, h2, h3, h4⟩
      simp only [hw, decide_true] at h36
      have hev := @evn_le n
      by_cases ha : a % 2 = 1
      · have ha' : ((a % 2 : Nat) : Int) = 1 := by omega
        simp only [c30, h32, h36, tm2, ha', evX, Int.reduceEq, Int.reduceLT, Int.reduceLE, Nat.reduceMul, Nat.reduceMod, evW, fn_eq, evR, Nat.reduceAdd, Nat.reduceLT, Nat.reduceLeDiff, reduceIte, Nat.reduceEqDiff, reduceCtorEq, argEnv, eq_self, if_true, if_false]
        repeat' ((first | rw [guardK_cases] | rw [condK_bool] | rw [guardD_cases]); split <;> simp only [c30, h32, h36, tm2, ha', evX, Int.reduceEq, Int.reduceLT, Int.reduceLE, Nat.reduceMul, Nat.reduceMod, evW, evR, Nat.reduceAdd, Nat.reduceLT, Nat.reduceLeDiff, reduceIte, Nat.reduceEqDiff, reduceCtorEq, argEnv, eq_self, if_true, if_false, *])
        exact frz_two (fz_nils _) rfl (by simp) (by simp) _ _
      · have ha' : ¬ ((a % 2 : Nat) : Int) = 1 := by omega
        have hu : usedAns (plAns p).1 a (evn n) = false := by
          have h0 : (a : Int) % 2 = 0 := by omega
          simpa [giveOk, hw, h0] using hg
        have hS := out_slat (H0 := H) (X := X) (n := H.length) hO rfl (pl_rows _)
        have hll := ans_len p
        have h40 := fun H => f40 n (by omega) H
        have h37 := f37 _ rv (by omega) (fun x hx => by have := ans_small p hp x hx; omega) a (evn n) (by omega) (H ++ X) hS
        rw [hu] at h37
        simp only [c30, h32, h36, h37, h40, tm2, ha', evX, Int.reduceEq, Int.reduceLT, Int.reduceLE, Nat.reduceMul, Nat.reduceMod, evW, fn_eq, evR, Nat.reduceAdd, Nat.reduceLT, Nat.reduceLeDiff, reduceIte, Nat.reduceEqDiff, reduceCtorEq, argEnv, eq_self, if_true, if_false]
        repeat' ((first | rw [guardK_cases] | rw [condK_bool] | rw [guardD_cases]); split <;> simp only [c30, h32, h36, h37, h40, tm2, ha', evX, Int.reduceEq, Int.reduceLT, Int.reduceLE, Nat.reduceMul, Nat.reduceMod, evW, evR, Nat.reduceAdd, Nat.reduceLT, Nat.reduceLeDiff, reduceIte, Nat.reduceEqDiff, reduceCtorEq, argEnv, eq_self, if_true, if_false, *])
        exact frz_two (fz_nils _) rfl (by simp) (by simp) _ _
    · simp only [hw, decide_false] at h36
      simp only [c30, h32, h36, evX, Int.reduceEq, Int.reduceLT, Int.reduceLE, Nat.reduceMul, Nat.reduceMod, evW, fn_eq, evR, Nat.reduceAdd, Nat.reduceLT, Nat.reduceLeDiff, reduceIte, Nat.reduceEqDiff, reduceCtorEq, argEnv, eq_self, if_true, if_false]
      repeat' ((first | rw [guardK_cases] | rw [condK_bool] | rw [guardD_cases]); split <;> simp only [c30, h32, h36, evX, Int.reduceEq, Int.reduceLT, Int.reduceLE, Nat.reduceMul, Nat.reduceMod, evW, evR, Nat.reduceAdd, Nat.reduceLT, Nat.reduceLeDiff, reduceIte, Nat.reduceEqDiff, reduceCtorEq, argEnv, eq_self, if_true, if_false, *])
      exact frz_two (fz_nils _) rfl (by simp) (by simp) _ _
theorem f30 (p : List Nat) (hp : Page p) (a n : Int) (H : Heap) : cal (evC cprog) true 30 [eB p, .int .i64 a, .int .i64 n] H = some (.tup [eB (giveP p a n).1, .int .i64 (giveP p a n).2], H) := by
  by_cases hno : (plAns p).2 = false ∨ giveOk (plAns p).1 a n = false
  · exact f30e p hp a n H hno
  have hok : (plAns p).2 = true := by cases h : (plAns p).2; exact absurd (.inl h) hno; rfl
  have hgo : giveOk (plAns p).1 a n = true := by cases h : giveOk (plAns p).1 a n; exact absurd (.inr h) hno; rfl
  have hw : withinOk a n := by simp only [giveOk, Bool.and_eq_true, decide_eq_true_eq] at hgo; exact hgo.1.1
  have h1 := hw.1
  have h2 := hw.2.1
  have h3 := hw.2.2.1
  have h4 := hw.2.2.2
  obtain ⟨a, rfl⟩ : ∃ m : Nat, a = (m : Int) := ⟨a.toNat, by omega⟩
  obtain ⟨n, rfl⟩ : ∃ m : Nat, n = (m : Int) := ⟨n.toNat, by omega⟩
  have g := givAt_of (ans_okL p) hgo
  rw [cal_of at30]
  obtain ⟨rv, X, h32, hO⟩ := f32c p hp H
  rw [hok] at h32
  unfold giveP
  rw [if_neg (by rw [hok]; simp), if_neg (by rw [hgo]; simp)]
  simp only [Int.toNat_natCast]
  have hlen := ans_128 p hok
  have h36 := fun H => f36 (a : Int) (n : Int) H
  simp only [hw, decide_true] at h36
  have hS := out_slat (H0 := H) (X := X) (n := H.length) hO rfl (pl_rows _)
  have hll := ans_len p
  have h40 := fun H => f40 n (by omega) H
  have h37 := f37 _ rv (by omega) (fun x hx => by have := ans_small p hp x hx; omega) a (evn n) (by have := @evn_le n; omega) (H ++ X) hS
  have hev := @evn_le n
  have hu : usedAns (plAns p).1 a (evn n) = true := by
    simp only [giveOk, Bool.and_eq_true, decide_eq_true_eq, Int.toNat_natCast] at hgo; exact hgo.2
  rw [hu] at h37
  have ha2 := g.ea
  have hfit := g.le
  have hlt := g.lt
  have hokG := g.okG
  rw [show giveL (plAns p).1 a (a + evn n) = gL (giv (plAns p).1 a (a + evn n)).1 (giv (plAns p).1 a (a + evn n)).2.1 (giv (plAns p).1 a (a + evn n)).2.2.1 (giv (plAns p).1 a (a + evn n)).2.2.2 a (a + evn n) from rfl]
  generalize (giv (plAns p).1 a (a + evn n)).1 = A at *
  generalize (giv (plAns p).1 a (a + evn n)).2.1 = pv at *
  generalize (giv (plAns p).1 a (a + evn n)).2.2.1 = nv at *
  generalize (giv (plAns p).1 a (a + evn n)).2.2.2 = C at *
  generalize hm : evn n = m at *
  have ha' : ¬ ((a % 2 : Nat) : Int) = 1 := by omega
  have h39 := f39 p (by intro e; rw [e] at hlen; simp at hlen) (by omega) (H ++ X)
  have hsl := fun K b => slcB (K := K) (b := b) (v := 0) hfit
  have hcl := clrB (Y := H ++ X) (v := 0) hlen hfit (by omega)
  have hzl : (zeroP p a m).length = 128 := by rw [zeroP_len (by omega)]; exact hlen
  have hw1 := wrapA (a := a) (b := m) (by omega) (by omega)
  rw [hlen] at h39
  simp only [List.length_append, List.append_assoc] at h39 hcl
  have hS1 := hS.app [bP 0 (zeroP p a m)]
  rw [List.append_assoc] at hS1
  have hlp := l30 _ rv _ hS1 (by omega) a (m : Int) (.ref (H.length + X.length) 0 1 0 128) (gI A pv) g.gi_le fun k x hx => g.front hx
  obtain ⟨b, v, K, els, hins, g0⟩ := ins30 H X rv _ hO (by omega) (zeroP p a m) hzl (a, m) (gI A pv) g.gi_le
  rw [g.take, g.drop] at g0
  obtain ⟨B, hB⟩ : ∃ B, A ++ pv.toList = B := ⟨_, rfl⟩
  have hgi : gI A pv = B.length := by rw [← hB]; simp [gI]
  rw [hgi] at hins hlp
  rw [hB] at g0
  have hn1 : (plAns p).1.length + 1 = (B ++ (a, m) :: (nv.toList ++ C)).length := by
    have := congrArg List.length g.eq
    rw [← hB]
    simp at this ⊢
    omega
  rw [hn1] at hins
  have hq : ∀ o : Option Pl, gQ p o a (a + m) = match o with | some y => zeroP (zeroP p a m) y.1 2 | none => zeroP p a m := fun o => by
    unfold gQ; cases o <;> simp only [Nat.add_sub_cancel_left]
  rw [hq]
  clear hq
  have hBl : B.length ≤ 130 := by have := g.gi_le; omega
  have hCl : C.length ≤ 130 := by have := congrArg List.length g.eq; simp at this; omega
  have x0 := at_mid B (a, m) (nv.toList ++ C)
  simp only at hins
  simp only [c30, h32, h36, h37, h40, tm2, ha', h39, hsl, hcl, hw1, asNat_cast, evX, Int.reduceEq, Int.reduceLT, Int.reduceLE, Nat.reduceMul, Nat.reduceMod, evW, fn_eq, evR, Nat.reduceAdd, Nat.reduceLT, Nat.reduceLeDiff, reduceIte, Nat.reduceEqDiff, reduceCtorEq, argEnv, eq_self, if_true, if_false]
  repeat' ((first | rw [guardK_cases] | rw [condK_bool] | rw [guardD_cases]); split <;> simp only [c30, h32, h36, h37, h40, tm2, ha', h39, hsl, hcl, hw1, asNat_cast, evX, Int.reduceEq, Int.reduceLT, Int.reduceLE, Nat.reduceMul, Nat.reduceMod, evW, evR, Nat.reduceAdd, Nat.reduceLT, Nat.reduceLeDiff, reduceIte, Nat.reduceEqDiff, reduceCtorEq, argEnv, eq_self, if_true, if_false, *])
  generalize hz : itLim _ _ = z
  obtain ⟨T, rfl, hT⟩ := hlp _ (by rfl) rfl z hz
  clear hz hlp
  clear h36 h37 h40 h39 hcl hsl h32
  have h32 := hT
  have hwi := wrapA1 (a := B.length) (by omega)
  have h47a := fun H => f47 (a, m) (by simp only; omega) (by simp only; omega) H
  simp only [rPl] at h47a
  obtain ⟨L1, hL1⟩ : ∃ L1, L1 = B ++ (a, m) :: (nv.toList ++ C) := ⟨_, rfl⟩
  rw [← hL1] at hins g0 x0 hn1
  have hnl1 : L1.length = B.length + 1 + (nv.toList.length + C.length) := by rw [hL1]; simp; omega
  have hK1 := g0.Kb
  have hr2 := g0.row x0
  have hi1 : B.length < L1.length := by omega
  cases nv with
  | none =>
    simp only [Option.toList_none, List.nil_append, List.length_nil, Nat.zero_add] at hL1 hnl1
    cases hC : C with
    | nil =>
      have hc1 : ¬ ((B.length + 1 : Nat) : Int) < (L1.length : Int) := by rw [hC] at hnl1; simp at hnl1; omega
      rw [← hC]

      cases pv with
      | some x =>
        have hBA : B = A ++ [x] := hB.symm
        have hlB : B.length = A.length + 1 := by rw [hBA]; simp
        have hxl := okL_mem g.okl (g.pm rfl)
        have hxe := g.pvE x rfl
        have hx2 := hxl.two
        have z0 : L1[A.length]? = some x := by rw [hL1, hBA, List.append_assoc]; exact at_mid A x _
        have z1 : L1[B.length]? = some (a, m) := by rw [hL1]; exact at_mid B _ _
        have hnl : L1.length = A.length + 2 + C.length := by rw [hL1, hBA]; simp; omega
        have u := g0.upd (i := A.length) (x.1, x.2 + m)
        obtain ⟨K9, els9, h9, g9⟩ := u.del (i := B.length) (by rw [List.length_set]; omega)
        have hfin : (L1.set A.length (x.1, x.2 + m)).take B.length ++ (L1.set A.length (x.1, x.2 + m)).drop (B.length + 1) = gL A (some x) none C a (a + m) := by
          rw [hlB, hL1, hBA, List.append_assoc]
          rw [show [x] ++ (a, m) :: C = x :: (a, m) :: C from rfl, merge_next]
          unfold gL
          congr 2
          simp only [gFrom, gTo, Prod.mk.injEq, true_and]
          omega
        rw [hfin] at g9
        have hl9 : B.length + (L1.length - (B.length + 1)) = (gL A (some x) none C a (a + m)).length := by rw [hnl, hlB]; simp [gL]; omega
        rw [List.length_set, hl9] at h9
        generalize gL A (some x) none C a (a + m) = L9 at *
        obtain ⟨Z, h35, zy, zt⟩ := g9.tail hokG
        have hr0 := g0.row z0
        have hr1 := g0.row z1
        have hKb := g0.Kb
        have hpi : (0 : Int) < (B.length : Int) := by omega
        have hws : IntKind.i64.wrap ((B.length : Int) - 1) = (A.length : Int) := by rw [wrap_i64 (by omega) (by omega)]; omega
        have h47b := fun H => f47 x (by omega) (by omega) H
        have hxe' : ((x.1 + x.2 : Nat) : Int) = (a : Int) := by omega
        have hwm := wrapA (a := x.2) (b := m) (by omega) (by omega)
        have hk0 : A.length < L1.length := by omega
        have hk1 : B.length < L1.length := by omega
        simp only [rPl] at h47b
        clear hL1 hC hfin hl9 g9 u hnl hlB hBA hB hnl1 hn1
        simp only [h32, hins, hwi, h47a, hK1, hr2, hi1, hc1, hr0, hr1, hKb, hpi, hws, h47b, hxe', hwm, hk0, hk1, h9, h35, asNat_cast, evX, Int.reduceEq, Int.reduceLT, Int.reduceLE, Nat.reduceMul, Nat.reduceMod, evW, fn_eq, evR, Nat.reduceAdd, Nat.reduceLT, Nat.reduceLeDiff, reduceIte, Nat.reduceEqDiff, reduceCtorEq, argEnv, eq_self, if_true, if_false]
        repeat' ((first | rw [guardK_cases] | rw [condK_bool] | rw [guardD_cases]); split <;> simp only [h32, hins, hwi, h47a, hK1, hr2, hi1, hc1, hr0, hr1, hKb, hpi, hws, h47b, hxe', hwm, hk0, hk1, h9, h35, asNat_cast, evX, Int.reduceEq, Int.reduceLT, Int.reduceLE, Nat.reduceMul, Nat.reduceMod, evW, evR, Nat.reduceAdd, Nat.reduceLT, Nat.reduceLeDiff, reduceIte, Nat.reduceEqDiff, reduceCtorEq, argEnv, eq_self, if_true, if_false, *])
        obtain ⟨ids, f1, f2⟩ := fz_pageAt zy (by rw [chainB_len]; exact g0.q128)
        exact frz_two f1 rfl zt (fun k hk => by have := f2 k hk; omega) _ _
      | none =>
        obtain rfl : B = A := by rw [← hB]; simp
        have hfin : L1 = gL B none none C a (a + m) := by
          rw [hL1]
          unfold gL
          congr 2
          simp only [gFrom, gTo, Prod.mk.injEq, true_and]
          omega
        rw [← hfin] at hokG
        rw [← hfin]
        obtain ⟨Z, h35, zy, zt⟩ := g0.tail hokG
        have hKb := g0.Kb
        rcases List.eq_nil_or_concat B with hB0 | ⟨B', z, hB1⟩
        · have hpi : ¬ (0 : Int) < (B.length : Int) := by rw [hB0]; simp
          clear hL1 hC hfin hnl1 hn1 hB hB0
          simp only [h32, hins, hwi, h47a, hK1, hr2, hi1, hc1, hKb, h35, hpi, asNat_cast, evX, Int.reduceEq, Int.reduceLT, Int.reduceLE, Nat.reduceMul, Nat.reduceMod, evW, fn_eq, evR, Nat.reduceAdd, Nat.reduceLT, Nat.reduceLeDiff, reduceIte, Nat.reduceEqDiff, reduceCtorEq, argEnv, eq_self, if_true, if_false]
          repeat' ((first | rw [guardK_cases] | rw [condK_bool] | rw [guardD_cases]); split <;> simp only [h32, hins, hwi, h47a, hK1, hr2, hi1, hc1, hKb, h35, hpi, asNat_cast, evX, Int.reduceEq, Int.reduceLT, Int.reduceLE, Nat.reduceMul, Nat.reduceMod, evW, evR, Nat.reduceAdd, Nat.reduceLT, Nat.reduceLeDiff, reduceIte, Nat.reduceEqDiff, reduceCtorEq, argEnv, eq_self, if_true, if_false, *])
          obtain ⟨ids, f1, f2⟩ := fz_pageAt zy (by rw [chainB_len]; exact g0.q128)
          exact frz_two f1 rfl zt (fun k hk => by have := f2 k hk; omega) _ _
        · rw [List.concat_eq_append] at hB1
          have hlB : B.length = B'.length + 1 := by rw [hB1]; simp
          have hzl := okL_mem g.okl (show z ∈ (plAns p).1 by rw [g.eq, hB1]; simp)
          have hze : z.1 + z.2 < a := g.lo z (by rw [hB1]; simp)
          have z0 : L1[B'.length]? = some z := by rw [hL1, hB1, List.append_assoc]; exact at_mid B' z _
          have z1 : L1[B.length]? = some (a, m) := by rw [hL1]; exact at_mid B _ _
          have hnl : L1.length = B.length + 1 + C.length := by rw [hL1]; simp; omega
          have hr0 := g0.row z0
          have hr1 := g0.row z1
          have hpi : (0 : Int) < (B.length : Int) := by omega
          have hws : IntKind.i64.wrap ((B.length : Int) - 1) = (B'.length : Int) := by rw [wrap_i64 (by omega) (by omega)]; omega
          have h47b := fun H => f47 z (by omega) (by omega) H
          have hxe' : ¬ ((z.1 + z.2 : Nat) : Int) = (a : Int) := by omega
          have hk0 : B'.length < L1.length := by omega
          have hk1 : B.length < L1.length := by omega
          simp only [rPl] at h47b
          clear hL1 hC hfin hnl hlB hnl1 hn1 hB hB1
          simp only [h32, hins, hwi, h47a, hK1, hr2, hi1, hc1, hr0, hr1, hKb, hpi, hws, h47b, hxe', hk0, hk1, h35, asNat_cast, evX, Int.reduceEq, Int.reduceLT, Int.reduceLE, Nat.reduceMul, Nat.reduceMod, evW, fn_eq, evR, Nat.reduceAdd, Nat.reduceLT, Nat.reduceLeDiff, reduceIte, Nat.reduceEqDiff, reduceCtorEq, argEnv, eq_self, if_true, if_false]
          repeat' ((first | rw [guardK_cases] | rw [condK_bool] | rw [guardD_cases]); split <;> simp only [h32, hins, hwi, h47a, hK1, hr2, hi1, hc1, hr0, hr1, hKb, hpi, hws, h47b, hxe', hk0, hk1, h35, asNat_cast, evX, Int.reduceEq, Int.reduceLT, Int.reduceLE, Nat.reduceMul, Nat.reduceMod, evW, evR, Nat.reduceAdd, Nat.reduceLT, Nat.reduceLeDiff, reduceIte, Nat.reduceEqDiff, reduceCtorEq, argEnv, eq_self, if_true, if_false, *])
          obtain ⟨ids, f1, f2⟩ := fz_pageAt zy (by rw [chainB_len]; exact g0.q128)
          exact frz_two f1 rfl zt (fun k hk => by have := f2 k hk; omega) _ _

    | cons y C' =>
      have hc1 : ((B.length + 1 : Nat) : Int) < (L1.length : Int) := by rw [hC] at hnl1; simp at hnl1; omega
      have hi2 : B.length + 1 < L1.length := by omega
      have hya : a + m < y.1 := g.hi y (by rw [hC]; exact List.mem_cons_self ..)
      have hne1 : ¬ ((a + m : Nat) : Int) = (y.1 : Int) := by omega
      have x1 : L1[B.length + 1]? = some y := by rw [hL1, hC]; exact at_mid1 B _ _ _
      have hr3 := g0.row x1
      rw [← hC]

      cases pv with
      | some x =>
        have hBA : B = A ++ [x] := hB.symm
        have hlB : B.length = A.length + 1 := by rw [hBA]; simp
        have hxl := okL_mem g.okl (g.pm rfl)
        have hxe := g.pvE x rfl
        have hx2 := hxl.two
        have z0 : L1[A.length]? = some x := by rw [hL1, hBA, List.append_assoc]; exact at_mid A x _
        have z1 : L1[B.length]? = some (a, m) := by rw [hL1]; exact at_mid B _ _
        have hnl : L1.length = A.length + 2 + C.length := by rw [hL1, hBA]; simp; omega
        have u := g0.upd (i := A.length) (x.1, x.2 + m)
        obtain ⟨K9, els9, h9, g9⟩ := u.del (i := B.length) (by rw [List.length_set]; omega)
        have hfin : (L1.set A.length (x.1, x.2 + m)).take B.length ++ (L1.set A.length (x.1, x.2 + m)).drop (B.length + 1) = gL A (some x) none C a (a + m) := by
          rw [hlB, hL1, hBA, List.append_assoc]
          rw [show [x] ++ (a, m) :: C = x :: (a, m) :: C from rfl, merge_next]
          unfold gL
          congr 2
          simp only [gFrom, gTo, Prod.mk.injEq, true_and]
          omega
        rw [hfin] at g9
        have hl9 : B.length + (L1.length - (B.length + 1)) = (gL A (some x) none C a (a + m)).length := by rw [hnl, hlB]; simp [gL]; omega
        rw [List.length_set, hl9] at h9
        generalize gL A (some x) none C a (a + m) = L9 at *
        obtain ⟨Z, h35, zy, zt⟩ := g9.tail hokG
        have hr0 := g0.row z0
        have hr1 := g0.row z1
        have hKb := g0.Kb
        have hpi : (0 : Int) < (B.length : Int) := by omega
        have hws : IntKind.i64.wrap ((B.length : Int) - 1) = (A.length : Int) := by rw [wrap_i64 (by omega) (by omega)]; omega
        have h47b := fun H => f47 x (by omega) (by omega) H
        have hxe' : ((x.1 + x.2 : Nat) : Int) = (a : Int) := by omega
        have hwm := wrapA (a := x.2) (b := m) (by omega) (by omega)
        have hk0 : A.length < L1.length := by omega
        have hk1 : B.length < L1.length := by omega
        simp only [rPl] at h47b
        clear hL1 hC hfin hl9 g9 u hnl hlB hBA hB hnl1 hn1
        simp only [h32, hins, hwi, h47a, hK1, hr2, hi1, hc1, hi2, hne1, hr3, hr0, hr1, hKb, hpi, hws, h47b, hxe', hwm, hk0, hk1, h9, h35, asNat_cast, evX, Int.reduceEq, Int.reduceLT, Int.reduceLE, Nat.reduceMul, Nat.reduceMod, evW, fn_eq, evR, Nat.reduceAdd, Nat.reduceLT, Nat.reduceLeDiff, reduceIte, Nat.reduceEqDiff, reduceCtorEq, argEnv, eq_self, if_true, if_false]
        repeat' ((first | rw [guardK_cases] | rw [condK_bool] | rw [guardD_cases]); split <;> simp only [h32, hins, hwi, h47a, hK1, hr2, hi1, hc1, hi2, hne1, hr3, hr0, hr1, hKb, hpi, hws, h47b, hxe', hwm, hk0, hk1, h9, h35, asNat_cast, evX, Int.reduceEq, Int.reduceLT, Int.reduceLE, Nat.reduceMul, Nat.reduceMod, evW, evR, Nat.reduceAdd, Nat.reduceLT, Nat.reduceLeDiff, reduceIte, Nat.reduceEqDiff, reduceCtorEq, argEnv, eq_self, if_true, if_false, *])
        obtain ⟨ids, f1, f2⟩ := fz_pageAt zy (by rw [chainB_len]; exact g0.q128)
        exact frz_two f1 rfl zt (fun k hk => by have := f2 k hk; omega) _ _
      | none =>
        obtain rfl : B = A := by rw [← hB]; simp
        have hfin : L1 = gL B none none C a (a + m) := by
          rw [hL1]
          unfold gL
          congr 2
          simp only [gFrom, gTo, Prod.mk.injEq, true_and]
          omega
        rw [← hfin] at hokG
        rw [← hfin]
        obtain ⟨Z, h35, zy, zt⟩ := g0.tail hokG
        have hKb := g0.Kb
        rcases List.eq_nil_or_concat B with hB0 | ⟨B', z, hB1⟩
        · have hpi : ¬ (0 : Int) < (B.length : Int) := by rw [hB0]; simp
          clear hL1 hC hfin hnl1 hn1 hB hB0
          simp only [h32, hins, hwi, h47a, hK1, hr2, hi1, hc1, hi2, hne1, hr3, hKb, h35, hpi, asNat_cast, evX, Int.reduceEq, Int.reduceLT, Int.reduceLE, Nat.reduceMul, Nat.reduceMod, evW, fn_eq, evR, Nat.reduceAdd, Nat.reduceLT, Nat.reduceLeDiff, reduceIte, Nat.reduceEqDiff, reduceCtorEq, argEnv, eq_self, if_true, if_false]
          repeat' ((first | rw [guardK_cases] | rw [condK_bool] | rw [guardD_cases]); split <;> simp only [h32, hins, hwi, h47a, hK1, hr2, hi1, hc1, hi2, hne1, hr3, hKb, h35, hpi, asNat_cast, evX, Int.reduceEq, Int.reduceLT, Int.reduceLE, Nat.reduceMul, Nat.reduceMod, evW, evR, Nat.reduceAdd, Nat.reduceLT, Nat.reduceLeDiff, reduceIte, Nat.reduceEqDiff, reduceCtorEq, argEnv, eq_self, if_true, if_false, *])
          obtain ⟨ids, f1, f2⟩ := fz_pageAt zy (by rw [chainB_len]; exact g0.q128)
          exact frz_two f1 rfl zt (fun k hk => by have := f2 k hk; omega) _ _
        · rw [List.concat_eq_append] at hB1
          have hlB : B.length = B'.length + 1 := by rw [hB1]; simp
          have hzl := okL_mem g.okl (show z ∈ (plAns p).1 by rw [g.eq, hB1]; simp)
          have hze : z.1 + z.2 < a := g.lo z (by rw [hB1]; simp)
          have z0 : L1[B'.length]? = some z := by rw [hL1, hB1, List.append_assoc]; exact at_mid B' z _
          have z1 : L1[B.length]? = some (a, m) := by rw [hL1]; exact at_mid B _ _
          have hnl : L1.length = B.length + 1 + C.length := by rw [hL1]; simp; omega
          have hr0 := g0.row z0
          have hr1 := g0.row z1
          have hpi : (0 : Int) < (B.length : Int) := by omega
          have hws : IntKind.i64.wrap ((B.length : Int) - 1) = (B'.length : Int) := by rw [wrap_i64 (by omega) (by omega)]; omega
          have h47b := fun H => f47 z (by omega) (by omega) H
          have hxe' : ¬ ((z.1 + z.2 : Nat) : Int) = (a : Int) := by omega
          have hk0 : B'.length < L1.length := by omega
          have hk1 : B.length < L1.length := by omega
          simp only [rPl] at h47b
          clear hL1 hC hfin hnl hlB hnl1 hn1 hB hB1
          simp only [h32, hins, hwi, h47a, hK1, hr2, hi1, hc1, hi2, hne1, hr3, hr0, hr1, hKb, hpi, hws, h47b, hxe', hk0, hk1, h35, asNat_cast, evX, Int.reduceEq, Int.reduceLT, Int.reduceLE, Nat.reduceMul, Nat.reduceMod, evW, fn_eq, evR, Nat.reduceAdd, Nat.reduceLT, Nat.reduceLeDiff, reduceIte, Nat.reduceEqDiff, reduceCtorEq, argEnv, eq_self, if_true, if_false]
          repeat' ((first | rw [guardK_cases] | rw [condK_bool] | rw [guardD_cases]); split <;> simp only [h32, hins, hwi, h47a, hK1, hr2, hi1, hc1, hi2, hne1, hr3, hr0, hr1, hKb, hpi, hws, h47b, hxe', hk0, hk1, h35, asNat_cast, evX, Int.reduceEq, Int.reduceLT, Int.reduceLE, Nat.reduceMul, Nat.reduceMod, evW, evR, Nat.reduceAdd, Nat.reduceLT, Nat.reduceLeDiff, reduceIte, Nat.reduceEqDiff, reduceCtorEq, argEnv, eq_self, if_true, if_false, *])
          obtain ⟨ids, f1, f2⟩ := fz_pageAt zy (by rw [chainB_len]; exact g0.q128)
          exact frz_two f1 rfl zt (fun k hk => by have := f2 k hk; omega) _ _

  | some y =>
    simp only [Option.toList_some, List.cons_append, List.nil_append, List.length_cons, List.length_nil, Nat.zero_add] at hL1 hnl1
    have hyl := okL_mem g.okl (g.nm rfl)
    have hyf := hyl.fit
    have hyt := hyl.two
    have hc1 : ((B.length + 1 : Nat) : Int) < (L1.length : Int) := by omega
    have hi2 : B.length + 1 < L1.length := by omega
    have hya := g.nvE y rfl
    have hne1 : ((a + m : Nat) : Int) = (y.1 : Int) := by omega
    have x1 : L1[B.length + 1]? = some y := by rw [hL1]; exact at_mid1 B _ _ _
    have hr3 := g0.row x1
    have hwy := wrapA2 (a := y.1) (by omega)
    have hsl2 := fun K b => slcB (K := K) (b := b) (v := 0) (a := y.1) (n := 2) (by omega)
    obtain ⟨K1, hcl2, g1⟩ := g0.clr (a := y.1) (n := 2) (by omega) (by omega)
    have u1 := g1.upd (i := B.length) (a, m + y.2)
    obtain ⟨K2, els2, h43, g2⟩ := u1.del (i := B.length + 1) (by rw [List.length_set]; omega)
    obtain ⟨L2, hL2⟩ : ∃ L2, L2 = (L1.set B.length (a, m + y.2)).take (B.length + 1) ++ (L1.set B.length (a, m + y.2)).drop (B.length + 1 + 1) := ⟨_, rfl⟩
    rw [← hL2] at g2
    rw [hL1, merge_next] at hL2
    have hl2 : (B.length + 1) + (L1.length - (B.length + 1 + 1)) = L2.length := by rw [hL2, hnl1]; simp; omega
    rw [List.length_set, hl2] at h43
    have h43' : cal (evC cprog) false 43 [.ref b v 2 0 L1.length, .int .i64 ((B.length + 1 : Nat) : Int), .int .i64 ((B.length + 2 : Nat) : Int)] _ = _ := h43
    clear h43 u1 hl2
    have hK2 := g1.Kb
    have hwb2 := wrapA2 (a := B.length) (by omega)
    have hwm2 := wrapA (a := m) (b := y.2) (by omega) (by omega)

    cases pv with
    | some x =>
      have hBA : B = A ++ [x] := hB.symm
      have hlB : B.length = A.length + 1 := by rw [hBA]; simp
      have hxl := okL_mem g.okl (g.pm rfl)
      have hxe := g.pvE x rfl
      have hx2 := hxl.two
      have z0 : L2[A.length]? = some x := by rw [hL2, hBA, List.append_assoc]; exact at_mid A x _
      have z1 : L2[B.length]? = some (a, (m + y.2)) := by rw [hL2]; exact at_mid B _ _
      have hnl : L2.length = A.length + 2 + C.length := by rw [hL2, hBA]; simp; omega
      have u := g2.upd (i := A.length) (x.1, x.2 + (m + y.2))
      obtain ⟨K9, els9, h9, g9⟩ := u.del (i := B.length) (by rw [List.length_set]; omega)
      have hfin : (L2.set A.length (x.1, x.2 + (m + y.2))).take B.length ++ (L2.set A.length (x.1, x.2 + (m + y.2))).drop (B.length + 1) = gL A (some x) (some y) C a (a + m) := by
        rw [hlB, hL2, hBA, List.append_assoc]
        rw [show [x] ++ (a, (m + y.2)) :: C = x :: (a, (m + y.2)) :: C from rfl, merge_next]
        unfold gL
        congr 2
        simp only [gFrom, gTo, Prod.mk.injEq, true_and]
        omega
      rw [hfin] at g9
      have hl9 : B.length + (L2.length - (B.length + 1)) = (gL A (some x) (some y) C a (a + m)).length := by rw [hnl, hlB]; simp [gL]; omega
      rw [List.length_set, hl9] at h9
      generalize gL A (some x) (some y) C a (a + m) = L9 at *
      obtain ⟨Z, h35, zy, zt⟩ := g9.tail hokG
      have hr0 := g2.row z0
      have hr1 := g2.row z1
      have hKb := g2.Kb
      have hpi : (0 : Int) < (B.length : Int) := by omega
      have hws : IntKind.i64.wrap ((B.length : Int) - 1) = (A.length : Int) := by rw [wrap_i64 (by omega) (by omega)]; omega
      have h47b := fun H => f47 x (by omega) (by omega) H
      have hxe' : ((x.1 + x.2 : Nat) : Int) = (a : Int) := by omega
      have hwm := wrapA (a := x.2) (b := (m + y.2)) (by omega) (by omega)
      have hk0 : A.length < L2.length := by omega
      have hk1 : B.length < L2.length := by omega
      simp only [rPl] at h47b
      clear hL1 hL2 hfin hl9 g9 u hnl hlB hBA hB hnl1 hn1
      simp only [h32, hins, hwi, h47a, hK1, hr2, hi1, hc1, hi2, hne1, hr3, hwy, hsl2, hcl2, hK2, hwb2, hwm2, h43', hr0, hr1, hKb, hpi, hws, h47b, hxe', hwm, hk0, hk1, h9, h35, asNat_cast, evX, Int.reduceEq, Int.reduceLT, Int.reduceLE, Nat.reduceMul, Nat.reduceMod, evW, fn_eq, evR, Nat.reduceAdd, Nat.reduceLT, Nat.reduceLeDiff, reduceIte, Nat.reduceEqDiff, reduceCtorEq, argEnv, eq_self, if_true, if_false]
      repeat' ((first | rw [guardK_cases] | rw [condK_bool] | rw [guardD_cases]); split <;> simp only [h32, hins, hwi, h47a, hK1, hr2, hi1, hc1, hi2, hne1, hr3, hwy, hsl2, hcl2, hK2, hwb2, hwm2, h43', hr0, hr1, hKb, hpi, hws, h47b, hxe', hwm, hk0, hk1, h9, h35, asNat_cast, evX, Int.reduceEq, Int.reduceLT, Int.reduceLE, Nat.reduceMul, Nat.reduceMod, evW, evR, Nat.reduceAdd, Nat.reduceLT, Nat.reduceLeDiff, reduceIte, Nat.reduceEqDiff, reduceCtorEq, argEnv, eq_self, if_true, if_false, *])
      obtain ⟨ids, f1, f2⟩ := fz_pageAt zy (by rw [chainB_len]; exact g2.q128)
      exact frz_two f1 rfl zt (fun k hk => by have := f2 k hk; omega) _ _
    | none =>
      obtain rfl : B = A := by rw [← hB]; simp
      have hfin : L2 = gL B none (some y) C a (a + m) := by
        rw [hL2]
        unfold gL
        congr 2
        simp only [gFrom, gTo, Prod.mk.injEq, true_and]
        omega
      rw [← hfin] at hokG
      rw [← hfin]
      obtain ⟨Z, h35, zy, zt⟩ := g2.tail hokG
      have hKb := g2.Kb
      rcases List.eq_nil_or_concat B with hB0 | ⟨B', z, hB1⟩
      · have hpi : ¬ (0 : Int) < (B.length : Int) := by rw [hB0]; simp
        clear hL1 hL2 hfin hnl1 hn1 hB hB0
        simp only [h32, hins, hwi, h47a, hK1, hr2, hi1, hc1, hi2, hne1, hr3, hwy, hsl2, hcl2, hK2, hwb2, hwm2, h43', hKb, h35, hpi, asNat_cast, evX, Int.reduceEq, Int.reduceLT, Int.reduceLE, Nat.reduceMul, Nat.reduceMod, evW, fn_eq, evR, Nat.reduceAdd, Nat.reduceLT, Nat.reduceLeDiff, reduceIte, Nat.reduceEqDiff, reduceCtorEq, argEnv, eq_self, if_true, if_false]
        repeat' ((first | rw [guardK_cases] | rw [condK_bool] | rw [guardD_cases]); split <;> simp only [h32, hins, hwi, h47a, hK1, hr2, hi1, hc1, hi2, hne1, hr3, hwy, hsl2, hcl2, hK2, hwb2, hwm2, h43', hKb, h35, hpi, asNat_cast, evX, Int.reduceEq, Int.reduceLT, Int.reduceLE, Nat.reduceMul, Nat.reduceMod, evW, evR, Nat.reduceAdd, Nat.reduceLT, Nat.reduceLeDiff, reduceIte, Nat.reduceEqDiff, reduceCtorEq, argEnv, eq_self, if_true, if_false, *])
        obtain ⟨ids, f1, f2⟩ := fz_pageAt zy (by rw [chainB_len]; exact g2.q128)
        exact frz_two f1 rfl zt (fun k hk => by have := f2 k hk; omega) _ _
      · rw [List.concat_eq_append] at hB1
        have hlB : B.length = B'.length + 1 := by rw [hB1]; simp
        have hzl := okL_mem g.okl (show z ∈ (plAns p).1 by rw [g.eq, hB1]; simp)
        have hze : z.1 + z.2 < a := g.lo z (by rw [hB1]; simp)
        have z0 : L2[B'.length]? = some z := by rw [hL2, hB1, List.append_assoc]; exact at_mid B' z _
        have z1 : L2[B.length]? = some (a, (m + y.2)) := by rw [hL2]; exact at_mid B _ _
        have hnl : L2.length = B.length + 1 + C.length := by rw [hL2]; simp; omega
        have hr0 := g2.row z0
        have hr1 := g2.row z1
        have hpi : (0 : Int) < (B.length : Int) := by omega
        have hws : IntKind.i64.wrap ((B.length : Int) - 1) = (B'.length : Int) := by rw [wrap_i64 (by omega) (by omega)]; omega
        have h47b := fun H => f47 z (by omega) (by omega) H
        have hxe' : ¬ ((z.1 + z.2 : Nat) : Int) = (a : Int) := by omega
        have hk0 : B'.length < L2.length := by omega
        have hk1 : B.length < L2.length := by omega
        simp only [rPl] at h47b
        clear hL1 hL2 hfin hnl hlB hnl1 hn1 hB hB1
        simp only [h32, hins, hwi, h47a, hK1, hr2, hi1, hc1, hi2, hne1, hr3, hwy, hsl2, hcl2, hK2, hwb2, hwm2, h43', hr0, hr1, hKb, hpi, hws, h47b, hxe', hk0, hk1, h35, asNat_cast, evX, Int.reduceEq, Int.reduceLT, Int.reduceLE, Nat.reduceMul, Nat.reduceMod, evW, fn_eq, evR, Nat.reduceAdd, Nat.reduceLT, Nat.reduceLeDiff, reduceIte, Nat.reduceEqDiff, reduceCtorEq, argEnv, eq_self, if_true, if_false]
        repeat' ((first | rw [guardK_cases] | rw [condK_bool] | rw [guardD_cases]); split <;> simp only [h32, hins, hwi, h47a, hK1, hr2, hi1, hc1, hi2, hne1, hr3, hwy, hsl2, hcl2, hK2, hwb2, hwm2, h43', hr0, hr1, hKb, hpi, hws, h47b, hxe', hk0, hk1, h35, asNat_cast, evX, Int.reduceEq, Int.reduceLT, Int.reduceLE, Nat.reduceMul, Nat.reduceMod, evW, evR, Nat.reduceAdd, Nat.reduceLT, Nat.reduceLeDiff, reduceIte, Nat.reduceEqDiff, reduceCtorEq, argEnv, eq_self, if_true, if_false, *])
        obtain ⟨ids, f1, f2⟩ := fz_pageAt zy (by rw [chainB_len]; exact g2.q128)
        exact frz_two f1 rfl zt (fun k hk => by have := f2 k hk; omega) _ _

end Go.Proofs.Ythgcnlmmgilhjaa.Code

/- page: Give, of the document. -/
set_option linter.unusedSimpArgs false
set_option linter.unusedVariables false
namespace Go.Proofs.Ythgcnlmmgilhjaa.Code
open Go.Proofs.Ythgcnlmmgilhjaa.Ev

variable {l : List Pl} {a e : Nat} {A : List Pl} {pv nv : Option Pl} {C : List Pl}
end Go.Proofs.Ythgcnlmmgilhjaa.Code

/- page: Give, of the document: both givings are one; the law PageTakes. -/
set_option linter.unusedSimpArgs false
set_option linter.unusedVariables false
namespace Go.Proofs.Ythgcnlmmgilhjaa.Code
open Go.Proofs.Ythgcnlmmgilhjaa.Ev

end Go.Proofs.Ythgcnlmmgilhjaa.Code

/- page: valid pages, and what taking and giving make of them. -/
set_option linter.unusedSimpArgs false
set_option linter.unusedVariables false
namespace Go.Proofs.Ythgcnlmmgilhjaa.Code
open Go.Proofs.Ythgcnlmmgilhjaa.Ev

structure V (p : List Nat) (l : List Pl) : Prop where
  pg : Page p
  len : p.length = 128
  s83 : byte p 1 = 83
  ans : plAns p = (l, true)
  ok : okL 2 l
theorem first_le {l : List Pl} (hl : okL 2 l) : first l ≤ 126 := by
  cases l with
  | nil => simp [first]
  | cons x l => exact hl.2.2.1
theorem nx_le {l : List Pl} (hl : okL 2 l) (k : Nat) : nx l k ≤ 126 := by
  unfold nx
  cases h : l[k + 1]? with
  | none => simp
  | some y => exact (okL_at hl h).le
theorem chain_small {q : List Nat} (hq : q.length = 128) (hs : ∀ j, byte q j < 256) {l : List Pl} (hl : okL 2 l) (j : Nat) : byte (chainB q l) j < 256 := by
  have c := chained_chain hq hl (Nat.le_refl _)
  by_cases h0 : j = 0
  · rw [h0, c.zero]; have := first_le hl; omega
  by_cases hx : ∀ x ∈ l, j ≠ x.1 ∧ j ≠ x.1 + 1
  · rw [c.rest j h0 hx]; exact hs j
  · have hx : ∃ x ∈ l, j = x.1 ∨ j = x.1 + 1 := by
      apply Classical.byContradiction
      intro hn
      exact hx fun x hx => ⟨fun e => hn ⟨x, hx, .inl e⟩, fun e => hn ⟨x, hx, .inr e⟩⟩
    obtain ⟨x, hx, e⟩ := hx
    obtain ⟨k, hk⟩ := List.getElem?_of_mem hx
    rcases e with rfl | rfl
    · rw [(c.head k x hk).1]; have := nx_le hl k; omega
    · rw [(c.head k x hk).2]; have := (okL_at hl hk).fit; have := (okL_at hl hk).ge; omega
theorem small_byte {q : List Nat} (hs : ∀ j, byte q j < 256) : ∀ n ∈ q, n < 256 := fun n hn => by
  obtain ⟨j, hj⟩ := List.getElem?_of_mem hn
  have := hs j
  unfold byte at this
  rw [hj] at this
  exact this
theorem V_chain {q : List Nat} (hq : q.length = 128) (h1 : byte q 1 = 83) (hs : ∀ j, byte q j < 256) {l : List Pl} (hl : okL 2 l) : V (chainB q l) l := by
  have c := chained_chain hq hl (Nat.le_refl _)
  have h83 : byte (chainB q l) 1 = 83 := by
    rw [c.rest 1 (by omega) fun x hx => by have := (okL_mem hl hx).ge; omega]; exact h1
  refine ⟨⟨by rw [c.len]; omega, small_byte (chain_small hq hs hl)⟩, c.len, h83, ?_, hl⟩
  unfold plAns plOf
  rw [if_pos ⟨c.len, h83⟩, chained_read c hl]
/-- a byte lies in a place -/
def inL (l : List Pl) (j : Nat) : Prop := ∃ x ∈ l, x.1 ≤ j ∧ j < x.1 + x.2
theorem chain_byte {q : List Nat} (hq : q.length = 128) {l : List Pl} (hl : okL 2 l) {j : Nat} (h0 : j ≠ 0) (hn : ¬ inL l j) : byte (chainB q l) j = byte q j := by
  have c := chained_chain hq hl (Nat.le_refl _)
  refine c.rest j h0 fun x hx => ?_
  have := (okL_mem hl hx).two
  constructor
  · intro e; exact hn ⟨x, hx, by omega, by omega⟩
  · intro e; exact hn ⟨x, hx, by omega, by omega⟩
theorem usedAns_iff {l : List Pl} {a n : Nat} : usedAns l a n = true ↔ ∀ x ∈ l, x.1 + x.2 ≤ a ∨ a + n ≤ x.1 := by
  simp only [usedAns, Bool.not_eq_true', List.any_eq_false, meets, Bool.and_eq_true, decide_eq_true_eq]
  constructor
  · intro h x hx
    have := h x hx
    omega
  · intro h x hx
    have := h x hx
    omega
theorem used1 {l : List Pl} {j : Nat} : usedAns l j 1 = true ↔ ¬ inL l j := by
  rw [usedAns_iff]
  constructor
  · rintro h ⟨x, hx, h1, h2⟩
    have := h x hx
    omega
  · intro h x hx
    apply Classical.byContradiction
    intro hc
    exact h ⟨x, hx, by omega, by omega⟩
section
variable {p : List Nat} {l : List Pl} {i m : Nat} {x : Pl}
theorem take_okL (hl : okL 2 l) (hx : l[i]? = some x) (hm : m ≤ x.2) (hm2 : 2 ≤ m) (hm0 : m % 2 = 0) : okL 2 (takeL l i m) := by
  have hxo := okL_at hl hx
  unfold takeL
  rw [hx]
  simp only
  split
  · exact okL_cut hl i
  · exact okL_part hl hx hm0 (by omega) (by omega)
theorem take_V (v : V p l) (hx : l[i]? = some x) (hm : m ≤ x.2) (hm2 : 2 ≤ m) (hm0 : m % 2 = 0) : V (chainB (zeroP p x.1 m) (takeL l i m)) (takeL l i m) := by
  have hxo := okL_at v.ok hx
  have hge := hxo.ge
  have hfit := hxo.fit
  have hz := fun j => zeroP_byte (q := p) (a := x.1) (n := m) (by rw [v.len]; omega) j
  refine V_chain (by rw [zeroP_len (by rw [v.len]; omega), v.len]) (by rw [hz, if_neg (by omega)]; exact v.s83) (fun j => ?_) (take_okL v.ok hx hm hm2 hm0)
  rw [hz]
  split
  · omega
  · exact v.pg.byte j
theorem list_split (hx : l[i]? = some x) : l = l.take i ++ x :: l.drop (i + 1) := by
  obtain ⟨h1, h2⟩ := List.getElem?_eq_some_iff.1 hx
  rw [← h2, ← List.drop_eq_getElem_cons h1, List.take_append_drop]
theorem inL_app {A B : List Pl} {j : Nat} : inL (A ++ B) j ↔ inL A j ∨ inL B j := by
  unfold inL
  constructor
  · rintro ⟨x, hx, h⟩
    rcases List.mem_append.1 hx with hx | hx
    · exact .inl ⟨x, hx, h⟩
    · exact .inr ⟨x, hx, h⟩
  · rintro (⟨x, hx, h⟩ | ⟨x, hx, h⟩)
    · exact ⟨x, List.mem_append_left _ hx, h⟩
    · exact ⟨x, List.mem_append_right _ hx, h⟩
theorem inL_cons {y : Pl} {B : List Pl} {j : Nat} : inL (y :: B) j ↔ (y.1 ≤ j ∧ j < y.1 + y.2) ∨ inL B j := by
  unfold inL
  simp only [List.mem_cons, exists_eq_or_imp]
theorem inL_nil {j : Nat} : ¬ inL [] j := by rintro ⟨x, hx, _⟩; cases hx
/-- what is taken leaves the free places, and nothing else -/
theorem take_in (hl : okL 2 l) (hx : l[i]? = some x) (hm : m ≤ x.2) (j : Nat) : inL (takeL l i m) j ↔ inL l j ∧ ¬ (x.1 ≤ j ∧ j < x.1 + m) := by
  have hs := list_split hx
  rw [takeL_eq hx hm]
  have hl' := hl
  rw [hs] at hl'
  obtain ⟨a1, a2, a3⟩ := okL_app.1 hl'
  obtain ⟨_, _, _, _, _, _, a4⟩ := a2
  have h1 : inL (l.take i) j → ¬ (x.1 ≤ j ∧ j < x.1 + m) := by
    rintro ⟨y, hy, h⟩ hc
    have := a3 y hy x (List.mem_cons_self ..)
    omega
  have h2 : inL (l.drop (i + 1)) j → ¬ (x.1 ≤ j ∧ j < x.1 + m) := by
    rintro ⟨y, hy, h⟩ hc
    have := (okL_mem a4 hy).ge
    omega
  conv => rhs; rw [hs]
  rw [inL_app, inL_app, inL_app, inL_cons]
  have h3 : inL (if m < x.2 then [(x.1 + m, x.2 - m)] else []) j ↔ (x.1 ≤ j ∧ j < x.1 + x.2) ∧ ¬ (x.1 ≤ j ∧ j < x.1 + m) := by
    split
    · rw [inL_cons]
      constructor
      · rintro (h | h)
        · simp only at h; omega
        · exact absurd h inL_nil
      · intro h; left; simp only; omega
    · constructor
      · intro h; exact absurd h inL_nil
      · intro h; omega
  rw [h3]
  constructor
  · rintro ((h | h) | h)
    · exact ⟨.inl h, h1 h⟩
    · exact ⟨.inr (.inl h.1), h.2⟩
    · exact ⟨.inr (.inr h), h2 h⟩
  · rintro ⟨h | h | h, hc⟩
    · exact .inl (.inl h)
    · exact .inl (.inr ⟨h, hc⟩)
    · exact .inr h
end
end Go.Proofs.Ythgcnlmmgilhjaa.Code

/- page: all functions are held, by the kernel's look or by a proof of their own. -/
set_option linter.unusedSimpArgs false
set_option linter.unusedVariables false
namespace Go.Proofs.Ythgcnlmmgilhjaa.Code
open Go.Proofs.Ythgcnlmmgilhjaa.Ev

theorem cprog_sound {f : Nat} {c : CFn} (h : cprog f = some c) : okFn Go.Proofs.Try.prog f c = true ∨ UserOk Go.Proofs.Try.prog f c := by
  rcases cprog_ok h with h | h
  · exact .inl h
  · simp only [utab, List.mem_cons, Prod.mk.injEq, List.not_mem_nil, or_false] at h
    obtain ⟨rfl, rfl⟩ := h
    exact .inr (userIns rfl rfl rfl rfl)
end Go.Proofs.Ythgcnlmmgilhjaa.Code

/- page: the law PageBack. -/
set_option linter.unusedSimpArgs false
set_option linter.unusedVariables false
namespace Go.Proofs.Ythgcnlmmgilhjaa.Code
open Go.Proofs.Ythgcnlmmgilhjaa.Ev

theorem V.isUsed {p : List Nat} {l : List Pl} (v : V p l) {a n : Nat} (h : 2 ≤ a ∧ 1 ≤ n ∧ a + n ≤ 128) : isUsedAns p a n = (usedAns l a n, 0) := by
  unfold isUsedAns
  rw [v.ans]
  simp only [Int.toNat_natCast]
  rw [if_neg (by simp), if_neg (by simp only [withinOk]; omega)]
theorem V.get {p : List Nat} {l : List Pl} (v : V p l) {a n : Nat} (h : 2 ≤ a ∧ 1 ≤ n ∧ a + n ≤ 128) (hu : usedAns l a n = true) : getAns p a n = (sub p a n, 0) := by
  unfold getAns
  rw [v.isUsed h, hu]
  simp
theorem V.places {p : List Nat} {l : List Pl} (v : V p l) : placesAns p = (l, 0) := by
  unfold placesAns
  rw [v.ans]; rfl
theorem sub_byte {q : List Nat} {a n t : Nat} (ht : t < n) : byte (sub q a n) t = byte q (a + t) := by
  unfold byte sub
  rw [List.getElem?_drop, List.getElem?_take, if_pos (by omega)]
theorem sub_len' {q : List Nat} {a n : Nat} (hq : q.length = 128) (h : a + n ≤ 128) : (sub q a n).length = n := sub_len q (by omega)
end Go.Proofs.Ythgcnlmmgilhjaa.Code

/- page: what moves leave as it is. -/
set_option linter.unusedSimpArgs false
set_option linter.unusedVariables false
namespace Go.Proofs.Ythgcnlmmgilhjaa.Code
open Go.Proofs.Ythgcnlmmgilhjaa.Ev

/-- bytes of a thing that was taken -/
def inX (x : Pl) (j : Nat) : Prop := x.1 ≤ j ∧ j < x.1 + evn x.2
structure Inv (p : List Nat) (l all : List Pl) : Prop where
  v : V p l
  ch : Chained p p l
  rng : ∀ x ∈ all, 2 ≤ x.1 ∧ x.1 % 2 = 0 ∧ 1 ≤ x.2 ∧ x.1 + evn x.2 ≤ 128
  sep : ∀ (i k : Nat) (x y : Pl), i ≠ k → all[i]? = some x → all[k]? = some y → ∀ j, inX x j → ¬ inX y j
  apart : ∀ x ∈ all, ∀ j, inX x j → ¬ inL l j
  cover : ∀ j, 2 ≤ j → j < 128 → inL l j ∨ ∃ x ∈ all, inX x j
  own : ∀ x ∈ all, byte p x.1 = x.1
  zero : ∀ j, inL l j → (∀ y ∈ l, j ≠ y.1 ∧ j ≠ y.1 + 1) → byte p j = 0
theorem Chained.self {q q0 : List Nat} {l : List Pl} (h : Chained q q0 l) : Chained q q l := ⟨h.len, h.zero, h.head, fun _ _ _ => rfl⟩
theorem V_chained {q : List Nat} {l : List Pl} (c : Chained q q l) (h1 : byte q 1 = 83) (hs : ∀ j, byte q j < 256) (hl : okL 2 l) : V q l := by
  refine ⟨⟨by rw [c.len]; omega, small_byte hs⟩, c.len, h1, ?_, hl⟩
  unfold plAns plOf
  rw [if_pos ⟨c.len, h1⟩, chained_read c hl]
theorem put_byte {p : List Nat} (hp : p.length = 128) {a b : Nat} (ha : a < 128) (j : Nat) : byte (putB p a [b]) j = if j = a then b else byte p j := by
  unfold byte putB
  by_cases h1 : j < a
  · rw [if_neg (by omega), List.append_assoc, List.getElem?_append_left (by simp; omega), List.getElem?_take, if_pos h1]
  · by_cases h2 : j = a
    · subst h2
      rw [if_pos rfl, List.append_assoc, List.getElem?_append_right (by simp; omega), List.length_take, show j - min j p.length = 0 by omega]
      rfl
    · rw [if_neg h2, List.getElem?_append_right (by simp; omega), List.getElem?_drop]
      congr 2
      simp; omega
theorem put_V {p : List Nat} {l : List Pl} (v : V p l) (c : Chained p p l) {a b : Nat} (ha : 2 ≤ a) (ha' : a < 128) (hb : b < 256) (hn : ¬ inL l a) : V (putB p a [b]) l ∧ Chained (putB p a [b]) (putB p a [b]) l := by
  have hpb := put_byte v.len (b := b) ha'
  have c' : Chained (putB p a [b]) (putB p a [b]) l := by
    refine ⟨putB_len v.len (by simp; omega), by rw [hpb, if_neg (by omega)]; exact c.zero, fun k x hx => ?_, fun _ _ _ => rfl⟩
    have h2 := (okL_at v.ok hx).two
    have hm := List.mem_of_getElem? hx
    have e1 : ¬ x.1 = a := fun e => hn ⟨x, hm, by omega, by omega⟩
    have e2 : ¬ x.1 + 1 = a := fun e => hn ⟨x, hm, by omega, by omega⟩
    rw [hpb, hpb, if_neg e1, if_neg e2]
    exact c.head k x hx
  refine ⟨V_chained c' (by rw [hpb, if_neg (by omega)]; exact v.s83) (fun j => ?_) v.ok, c'⟩
  rw [hpb]
  split
  · exact hb
  · exact v.pg.byte j
theorem nth_snoc {l : List Pl} {x y : Pl} {i : Nat} (h : (l ++ [x])[i]? = some y) : l[i]? = some y ∨ (i = l.length ∧ y = x) := by
  by_cases hi : i < l.length
  · rw [List.getElem?_append_left hi] at h; exact .inl h
  · rw [List.getElem?_append_right (by omega)] at h
    by_cases h0 : i - l.length = 0
    · rw [h0] at h; simp at h; exact .inr ⟨by omega, h.symm⟩
    · rw [List.getElem?_eq_none (by simp; omega)] at h; cases h
/-- a taking, and a byte put there -/
theorem Inv.take {p : List Nat} {l all : List Pl} (g : Inv p l all) {i n : Nat} {x : Pl} (hx : l[i]? = some x) (hn : 1 ≤ n) (hm : evn n ≤ x.2) :
    V (chainB (zeroP p x.1 (evn n)) (takeL l i (evn n))) (takeL l i (evn n)) ∧ usedAns (takeL l i (evn n)) x.1 1 = true ∧
    Inv (putB (chainB (zeroP p x.1 (evn n)) (takeL l i (evn n))) x.1 [x.1]) (takeL l i (evn n)) (all ++ [(x.1, n)]) := by
  have hev := @evn_le n
  have hxo := okL_at g.v.ok hx
  have hge := hxo.ge
  have hfit := hxo.fit
  have hxe := hxo.even
  have vq := take_V g.v hx hm (by omega) hev.2.2
  have hin := fun j => take_in g.v.ok hx hm j
  have hzl : (zeroP p x.1 (evn n)).length = 128 := by rw [zeroP_len (by rw [g.v.len]; omega)]; exact g.v.len
  have hzb := fun j => zeroP_byte (q := p) (a := x.1) (n := evn n) (by rw [g.v.len]; omega) j
  have cq := (chained_chain hzl vq.ok (Nat.le_refl _))
  have hxm := List.mem_of_getElem? hx
  have hnx : ¬ inL (takeL l i (evn n)) x.1 := fun h => ((hin x.1).1 h).2 ⟨by omega, by omega⟩
  have hxl : ∀ j, inX (x.1, n) j → inL l j := fun j h => ⟨x, hxm, h.1, by have := h.2; simp only at this; omega⟩
  obtain ⟨vp, cp⟩ := put_V vq cq.self (a := x.1) (b := x.1) (by omega) (by omega) (by omega) hnx
  have hpb := put_byte vq.len (a := x.1) (b := x.1) (by omega)
  refine ⟨vq, used1.2 hnx, vp, cp, fun y hy => ?_, fun i' k' y z hik hy hz j => ?_, fun y hy j hj => ?_, fun j h2 h128 => ?_, fun y hy => ?_, fun j hj hnh => ?_⟩
  · rcases List.mem_append.1 hy with hy | hy
    · exact g.rng y hy
    · simp only [List.mem_singleton] at hy; subst hy
      exact ⟨hge, hxe, hn, by simp only; omega⟩
  · rcases nth_snoc hy with hy | ⟨e1, rfl⟩ <;> rcases nth_snoc hz with hz | ⟨e2, rfl⟩
    · exact g.sep i' k' y z hik hy hz j
    · intro h1 h2
      exact g.apart y (List.mem_of_getElem? hy) j h1 (hxl j h2)
    · intro h1 h2
      exact g.apart z (List.mem_of_getElem? hz) j h2 (hxl j h1)
    · omega
  · rcases List.mem_append.1 hy with hy | hy
    · exact fun h => g.apart y hy j hj ((hin j).1 h).1
    · simp only [List.mem_singleton] at hy; subst hy
      exact fun h => ((hin j).1 h).2 hj
  · rcases g.cover j h2 h128 with h | ⟨y, hy, h⟩
    · by_cases hc : x.1 ≤ j ∧ j < x.1 + evn n
      · exact .inr ⟨(x.1, n), by simp, hc⟩
      · exact .inl ((hin j).2 ⟨h, hc⟩)
    · exact .inr ⟨y, List.mem_append_left _ hy, h⟩
  · rw [hpb]
    rcases List.mem_append.1 hy with hy | hy
    · have hr := g.rng y hy
      have hey := @evn_le y.2
      have hiny : inX y y.1 := ⟨Nat.le_refl _, by omega⟩
      have hnl := g.apart y hy y.1 hiny
      rw [if_neg fun e => hnl (by rw [e]; exact ⟨x, hxm, by omega, by have := hxo.two; omega⟩), chain_byte hzl vq.ok (by omega) fun h => hnl ((hin _).1 h).1, hzb, if_neg fun hc => hnl ⟨x, hxm, hc.1, by omega⟩]
      exact g.own y hy
    · simp only [List.mem_singleton] at hy; subst hy
      simp
  · have hj' := (hin j).1 hj
    rw [hpb, if_neg (by have := hj'.2; omega), cq.rest j (by rintro rfl; obtain ⟨⟨y, hy, h, _⟩, _⟩ := hj'; have := (okL_mem g.v.ok hy).ge; omega) hnh, hzb, if_neg hj'.2]
    refine g.zero j hj'.1 fun y hy => ?_
    obtain ⟨k, hk⟩ := List.getElem?_of_mem hy
    by_cases hki : k = i
    · subst hki
      rw [hx] at hk; cases hk
      have := hj'.2
      omega
    · refine hnh y ?_
      rw [takeL_eq hx hm, List.mem_append, List.mem_append]
      rcases Nat.lt_or_gt_of_ne hki with h | h
      · exact .inl (.inl (List.mem_of_getElem? (i := k) (by rw [List.getElem?_take, if_pos h]; exact hk)))
      · exact .inr (List.mem_of_getElem? (i := k - (i + 1)) (by rw [List.getElem?_drop, show i + 1 + (k - (i + 1)) = k by omega]; exact hk))
theorem give_in {l : List Pl} {a e : Nat} {A : List Pl} {pv nv : Option Pl} {C : List Pl} (g : GivAt l a e A pv nv C) (j : Nat) : inL (gL A pv nv C a e) j ↔ inL l j ∨ (a ≤ j ∧ j < e) := by
  have h1 := g.from_le
  have h2 := g.to_ge
  have h3 := g.lt
  have hmid : (gFrom pv a ≤ j ∧ j < gTo nv e) ↔ inL pv.toList j ∨ inL nv.toList j ∨ (a ≤ j ∧ j < e) := by
    have e1 : inL pv.toList j ↔ gFrom pv a ≤ j ∧ j < a := by
      cases h : pv with
      | none => simp only [Option.toList_none, gFrom]; exact ⟨fun h => absurd h inL_nil, fun h => by omega⟩
      | some x =>
        have := g.pvE x h
        simp only [Option.toList_some, gFrom, inL_cons]
        constructor
        · rintro (h | h)
          · omega
          · exact absurd h inL_nil
        · intro h; left; omega
    have e2 : inL nv.toList j ↔ e ≤ j ∧ j < gTo nv e := by
      cases h : nv with
      | none => simp only [Option.toList_none, gTo]; exact ⟨fun h => absurd h inL_nil, fun h => by omega⟩
      | some x =>
        have := g.nvE x h
        simp only [Option.toList_some, gTo, inL_cons]
        constructor
        · rintro (h | h)
          · omega
          · exact absurd h inL_nil
        · intro h; left; omega
    rw [e1, e2]
    omega
  unfold gL
  rw [inL_app, inL_cons]
  have hf : ((gFrom pv a, gTo nv e - gFrom pv a) : Pl).1 + ((gFrom pv a, gTo nv e - gFrom pv a) : Pl).2 = gTo nv e := by simp only; omega
  rw [hf]
  simp only
  rw [hmid]
  conv => rhs; rw [g.eq]
  rw [inL_app, inL_app, inL_app]
  constructor
  · rintro (h | (h | h | h) | h)
    · exact .inl (.inl h)
    · exact .inl (.inr (.inl h))
    · exact .inl (.inr (.inr (.inl h)))
    · exact .inr h
    · exact .inl (.inr (.inr (.inr h)))
  · rintro ((h | h | h | h) | h)
    · exact .inl h
    · exact .inr (.inl (.inl h))
    · exact .inr (.inl (.inr (.inl h)))
    · exact .inr (.inr h)
    · exact .inr (.inl (.inr (.inr h)))
theorem gQ_byte {p : List Nat} {l : List Pl} {a e : Nat} {A : List Pl} {pv nv : Option Pl} {C : List Pl} (g : GivAt l a e A pv nv C) (hp : p.length = 128) : (gQ p nv a e).length = 128 ∧ ∀ j, byte (gQ p nv a e) j = if (∃ y, nv = some y ∧ y.1 ≤ j ∧ j < y.1 + 2) then 0 else if a ≤ j ∧ j < e then 0 else byte p j := by
  have h3 := g.lt
  have h4 := g.le
  have hz : (zeroP p a (e - a)).length = 128 := by rw [zeroP_len (by omega), hp]
  have hny : ∀ y, nv = some y → y.1 + 2 ≤ 128 := fun y hy => by
    have := (okL_mem g.okl (g.nm hy)).fit
    have := (okL_mem g.okl (g.nm hy)).two
    omega
  have hzb := fun j => zeroP_byte (q := p) (a := a) (n := e - a) (by omega) j
  rw [show a + (e - a) = e by omega] at hzb
  unfold gQ
  cases h : nv with
  | none =>
    refine ⟨hz, fun j => ?_⟩
    rw [if_neg (by rintro ⟨y, hy, _⟩; cases hy)]
    exact hzb j
  | some y =>
    have hy := hny y h
    refine ⟨by simp only; rw [zeroP_len (by omega), hz], fun j => ?_⟩
    simp only
    rw [zeroP_byte (by omega), hzb]
    by_cases hc : y.1 ≤ j ∧ j < y.1 + 2
    · rw [if_pos hc, if_pos ⟨y, rfl, hc⟩]
    · have hc' : ¬ ∃ z, some y = some z ∧ z.1 ≤ j ∧ j < z.1 + 2 := by rintro ⟨z, hz', h'⟩; cases hz'; exact hc h'
      rw [if_neg hc, if_neg hc']
theorem Inv.used {p : List Nat} {l all : List Pl} (g : Inv p l all) {x : Pl} (hx : x ∈ all) : giveOk l x.1 x.2 = true := by
  have hr := g.rng x hx
  have hev := @evn_le x.2
  simp only [giveOk, Bool.and_eq_true, decide_eq_true_eq, Int.toNat_natCast]
  refine ⟨⟨⟨by omega, by omega, by omega, by omega⟩, by omega⟩, ?_⟩
  rw [usedAns_iff]
  intro y hy
  apply Classical.byContradiction
  intro hc
  have hy2 := (okL_mem g.v.ok hy).two
  by_cases hlt : y.1 ≤ x.1
  · exact g.apart x hx x.1 ⟨by omega, by omega⟩ ⟨y, hy, by omega, by omega⟩
  · exact g.apart x hx y.1 ⟨by omega, by omega⟩ ⟨y, hy, by omega, by omega⟩
theorem nth_cut {l : List Pl} {k i : Nat} {y : Pl} (hk : k < l.length) (h : (l.take k ++ l.drop (k + 1))[i]? = some y) : ∃ i', l[i']? = some y ∧ i' ≠ k ∧ (i' = if i < k then i else i + 1) := by
  by_cases hi : i < k
  · rw [List.getElem?_append_left (by simp; omega), List.getElem?_take, if_pos hi] at h
    exact ⟨i, h, by omega, by rw [if_pos hi]⟩
  · rw [List.getElem?_append_right (by simp; omega), List.getElem?_drop] at h
    refine ⟨i + 1, ?_, by omega, by rw [if_neg hi]⟩
    rw [← h]
    congr 1
    simp; omega
/-- a giving -/
theorem Inv.give {p : List Nat} {l all : List Pl} (g : Inv p l all) {k : Nat} {x : Pl} (hx : all[k]? = some x) {A : List Pl} {pv nv : Option Pl} {C : List Pl} (ga : GivAt l x.1 (x.1 + evn x.2) A pv nv C) :
    Inv (chainB (gQ p nv x.1 (x.1 + evn x.2)) (gL A pv nv C x.1 (x.1 + evn x.2))) (gL A pv nv C x.1 (x.1 + evn x.2)) (all.take k ++ all.drop (k + 1)) := by
  obtain ⟨hql, hqb⟩ := gQ_byte ga g.v.len
  have hkl := (List.getElem?_eq_some_iff.1 hx).1
  have hxm := List.mem_of_getElem? hx
  have hin := give_in ga
  have hokG := ga.okG
  have hge := ga.ge
  have hlt := ga.lt
  have h83 : byte (gQ p nv x.1 (x.1 + evn x.2)) 1 = 83 := by
    rw [hqb, if_neg (by rintro ⟨y, hy, h1, h2⟩; have := (okL_mem ga.okl (ga.nm hy)).ge; omega), if_neg (by omega)]
    exact g.v.s83
  have hsm : ∀ j, byte (gQ p nv x.1 (x.1 + evn x.2)) j < 256 := fun j => by
    rw [hqb]
    split
    · omega
    · split
      · omega
      · exact g.v.pg.byte j
  have vq := V_chain hql h83 hsm hokG
  have cq := chained_chain hql hokG (Nat.le_refl _)
  have hsub : ∀ y, y ∈ all.take k ++ all.drop (k + 1) → y ∈ all := fun y hy => by
    rcases List.mem_append.1 hy with hy | hy
    · exact List.mem_of_mem_take hy
    · exact List.mem_of_mem_drop hy
  have hoth : ∀ y, y ∈ all.take k ++ all.drop (k + 1) → ∀ j, inX y j → ¬ inX x j := fun y hy j => by
    obtain ⟨i, hi⟩ := List.getElem?_of_mem hy
    obtain ⟨i', h1, h2, _⟩ := nth_cut hkl hi
    exact g.sep i' k y x h2 h1 hx j
  refine ⟨vq, cq.self, fun y hy => g.rng y (hsub y hy), fun i' k' y z hik hy hz j => ?_, fun y hy j hj => ?_, fun j h2 h128 => ?_, fun y hy => ?_, fun j hj hnh => ?_⟩
  · obtain ⟨i1, h1, h2, h3⟩ := nth_cut hkl hy
    obtain ⟨i2, h4, h5, h6⟩ := nth_cut hkl hz
    refine g.sep i1 i2 y z ?_ h1 h4 j
    rw [h3, h6]
    split <;> split <;> omega
  · intro h
    rcases (hin j).1 h with h | h
    · exact g.apart y (hsub y hy) j hj h
    · exact hoth y hy j hj h
  · rcases g.cover j h2 h128 with h | ⟨y, hy, h⟩
    · exact .inl ((hin j).2 (.inl h))
    · obtain ⟨i, hi⟩ := List.getElem?_of_mem hy
      by_cases hik : i = k
      · subst hik
        rw [hx] at hi; cases hi
        exact .inl ((hin j).2 (.inr h))
      · refine .inr ⟨y, ?_, h⟩
        rw [List.mem_append]
        rcases Nat.lt_or_gt_of_ne hik with h | h
        · exact .inl (List.mem_of_getElem? (i := i) (by rw [List.getElem?_take, if_pos h]; exact hi))
        · exact .inr (List.mem_of_getElem? (i := i - (k + 1)) (by rw [List.getElem?_drop, show k + 1 + (i - (k + 1)) = i by omega]; exact hi))
  · have hr := g.rng y (hsub y hy)
    have hey := @evn_le y.2
    have hiny : inX y y.1 := ⟨Nat.le_refl _, by omega⟩
    have hnl := g.apart y (hsub y hy) y.1 hiny
    have hnx := hoth y hy y.1 hiny
    have hng : ¬ inL (gL A pv nv C x.1 (x.1 + evn x.2)) y.1 := fun h => ((hin y.1).1 h).elim hnl hnx
    rw [chain_byte hql hokG (by omega) hng, hqb, if_neg (by
      rintro ⟨z, hz, h1, h2⟩
      exact hnl ⟨z, ga.nm hz, h1, by have := (okL_mem ga.okl (ga.nm hz)).two; omega⟩), if_neg (show ¬ (x.1 ≤ y.1 ∧ y.1 < x.1 + evn x.2) from hnx)]
    exact g.own y (hsub y hy)
  · have hj0 : j ≠ 0 := by
      rintro rfl
      obtain ⟨y, hy, h, _⟩ := hj
      have := (okL_mem hokG hy).ge
      omega
    rw [cq.rest j hj0 hnh, hqb]
    by_cases c1 : ∃ y, nv = some y ∧ y.1 ≤ j ∧ j < y.1 + 2
    · rw [if_pos c1]
    rw [if_neg c1]
    by_cases c2 : x.1 ≤ j ∧ j < x.1 + evn x.2
    · rw [if_pos c2]
    rw [if_neg c2]
    have hjl : inL l j := ((hin j).1 hj).elim id fun h => absurd h c2
    refine g.zero j hjl fun z hz => ?_
    have hz' := hz
    rw [ga.eq] at hz'
    simp only [List.mem_append, Option.mem_toList] at hz'
    rcases hz' with hz' | hz' | hz' | hz'
    · exact hnh z (by unfold gL; exact List.mem_append_left _ hz')
    · have h6 := hnh (gFrom pv x.1, gTo nv (x.1 + evn x.2) - gFrom pv x.1) (by unfold gL; simp)
      rw [hz'] at h6
      simp only [gFrom] at h6
      exact h6
    · constructor
      · intro e; exact c1 ⟨z, hz', by omega, by omega⟩
      · intro e; exact c1 ⟨z, hz', by omega, by omega⟩
    · exact hnh z (by unfold gL; simp [hz'])
theorem Inv.fmt : Inv fmt [(2, 126)] [] := by
  have hok : okL 2 [(2, 126)] := by simp [okL]
  have e : Code.fmt = chainB fmt0 [(2, 126)] := by kernel_rfl
  have hl : fmt0.length = 128 := by simp [fmt0]
  have hz : ∀ j, byte fmt0 j = if j = 1 then 83 else 0 := fun j => by
    unfold fmt0
    rw [byte_set, List.length_replicate]
    by_cases h : j = 1
    · rw [if_pos ⟨h, by omega⟩, if_pos h]
    · rw [if_neg (by omega), if_neg h]
      unfold byte
      rw [List.getElem?_replicate]
      split <;> rfl
  have c := chained_chain hl hok (Nat.le_refl _)
  have v := V_chain hl (by rw [hz]; rfl) (fun j => by rw [hz]; split <;> omega) hok
  rw [e]
  refine ⟨v, c.self, (fun x h => by cases h), (fun i k x y _ h => by simp at h), (fun x h => by cases h), fun j h1 h2 => .inl ⟨(2, 126), by simp, h1, h2⟩, (fun x h => by cases h), fun j hj hnh => ?_⟩
  have hj2 : 2 ≤ j := by obtain ⟨y, hy, h, _⟩ := hj; have := (okL_mem hok hy).ge; omega
  rw [c.rest j (by omega) hnh, hz, if_neg (by omega)]
/-- when nothing is taken, the page is as at first -/
theorem Inv.last {p : List Nat} {l : List Pl} (g : Inv p l []) : p = Code.fmt := by
  have hall : ∀ j, 2 ≤ j → j < 128 → inL l j := fun j h1 h2 => (g.cover j h1 h2).elim id fun ⟨x, hx, _⟩ => by cases hx
  have hl : l = [(2, 126)] := by
    have hok := g.v.ok
    cases l with
    | nil => exact absurd (hall 2 (by omega) (by omega)) inL_nil
    | cons x l =>
      obtain ⟨h1, h2, h3, h4, h5, h6, h7⟩ := hok
      have hx1 : x.1 = 2 := by
        rcases inL_cons.1 (hall 2 (by omega) (by omega)) with h | ⟨y, hy, h, _⟩
        · omega
        · have := (okL_mem h7 hy).ge; omega
      have hx2 : x.1 + x.2 = 128 := by
        apply Classical.byContradiction
        intro hc
        rcases inL_cons.1 (hall (x.1 + x.2) (by omega) (by omega)) with h | ⟨y, hy, h, _⟩
        · omega
        · have := (okL_mem h7 hy).ge; omega
      have hn : l = [] := by
        cases l with
        | nil => rfl
        | cons y l => have := h7.1; have := h7.2.2.1; omega
      rw [hn]
      congr 1
      exact Prod.ext hx1 (by simp only; omega)
  subst hl
  have f := Inv.fmt
  refine chained_eq g.ch f.ch fun j h0 hj hn => ?_
  have hn' := hn (2, 126) (by simp)
  simp only at hn'
  by_cases h1 : j = 1
  · subst h1; rw [g.v.s83, f.v.s83]
  · rw [g.zero j (hall j (by omega) hj) hn, f.zero j ⟨(2, 126), by simp, by simp only; omega, by simp only; omega⟩ hn]
/- how much is free -/
def sumN : List Pl → Nat
  | [] => 0
  | x :: l => x.2 + sumN l
theorem sumN_app (A B : List Pl) : sumN (A ++ B) = sumN A + sumN B := by
  induction A with
  | nil => simp [sumN]
  | cons x A ih => simp only [List.cons_append, sumN, ih]; omega
theorem sumN_le : ∀ {l : List Pl} {m : Nat}, okL m l → sumN l + m ≤ 128 ∨ l = []
  | [], m, _ => .inr rfl
  | x :: l, m, ⟨h1, h2, h3, h4, h5, h6, h7⟩ => by
    left
    rcases sumN_le h7 with h | rfl
    · simp only [sumN]; omega
    · simp only [sumN]; omega
theorem sumW_N : ∀ (l : List Pl) (s : Nat), s + sumN l < 1000000 → l.foldl (fun s x => IntKind.i64.wrap (s + (x.2 : Int))) (s : Int) = ((s + sumN l : Nat) : Int)
  | [], s, _ => by simp [sumN]
  | x :: l, s, h => by
    simp only [sumN] at h
    rw [List.foldl_cons, wrapA (by omega) (by omega), sumW_N l (s + x.2) (by omega)]
    simp only [sumN]
    congr 1
    omega
theorem V.sum {p : List Nat} {l : List Pl} (v : V p l) : sumW l = ((sumN l : Nat) : Int) ∧ sumN l ≤ 126 := by
  have h : sumN l ≤ 126 := by
    rcases sumN_le v.ok with h | rfl
    · omega
    · simp [sumN]
  refine ⟨?_, h⟩
  have := sumW_N l 0 (by omega)
  rw [Nat.zero_add] at this
  exact this
theorem take_sum {l : List Pl} {i m : Nat} {x : Pl} (hx : l[i]? = some x) (hm : m ≤ x.2) : sumN (takeL l i m) + m = sumN l := by
  have hs := list_split hx
  rw [takeL_eq hx hm]
  conv => rhs; rw [hs]
  rw [sumN_app, sumN_app, sumN_app, sumN]
  split
  · simp only [sumN]; omega
  · simp only [sumN]; omega
theorem give_sum {l : List Pl} {a e : Nat} {A : List Pl} {pv nv : Option Pl} {C : List Pl} (g : GivAt l a e A pv nv C) : sumN (gL A pv nv C a e) + a = sumN l + e := by
  have h1 := g.from_le
  have h2 := g.to_ge
  have h3 := g.lt
  have e1 : sumN pv.toList + gFrom pv a = a := by
    cases h : pv with
    | none => simp [sumN, gFrom]
    | some x => have := g.pvE x h; simp only [Option.toList_some, sumN, gFrom]; omega
  have e2 : sumN nv.toList + e = gTo nv e := by
    cases h : nv with
    | none => simp [sumN, gTo]
    | some x => have := g.nvE x h; simp only [Option.toList_some, sumN, gTo]; omega
  conv => rhs; rw [g.eq]
  unfold gL
  rw [sumN_app, sumN, sumN_app, sumN_app, sumN_app]
  simp only
  omega
end Go.Proofs.Ythgcnlmmgilhjaa.Code

/- page: moves: what was taken, in memory; a byte put; the search for who else has it. -/
set_option linter.unusedSimpArgs false
set_option linter.unusedVariables false
namespace Go.Proofs.Ythgcnlmmgilhjaa.Code
open Go.Proofs.Ythgcnlmmgilhjaa.Ev

theorem copy_1 (H : Heap) (p : List Nat) (a n bb : Nat) (hp : p.length = 128) (h : a + 1 ≤ 128) (hb : H[bb]? = some ⟨0, true, 5, 1, [[.int .u8 (n : Int)]]⟩) : copyK 1 (H ++ [bP 0 p]) (some (.ref H.length 0 1 a (128 - a))) (some (.ref bb 0 1 0 1)) = some (.int .i64 1, H ++ [bP 0 (putB p a [n])]) := by
  have hbl := (List.getElem?_eq_some_iff.1 hb).1
  have hm : min 1 (128 - a) = 1 := by omega
  have hs : srcRows (H ++ [bP 0 p]) (.ref bb 0 1 0 1) = some [[.int .u8 (n : Int)]] := by
    simp [srcRows, rowsOf, curBlk, List.getElem?_append_left hbl, hb]
  have hk : curBlk (H ++ [bP 0 p]) H.length 0 1 = some (bP 0 p) := by simp [curBlk, bP]
  have hh : headOk 1 [[AV.int .u8 (n : Int)]] = true := rfl
  simp only [copyK, hs, evCopy, evLen, List.length_cons, List.length_nil, Nat.zero_add, hm, hh, hk, if_true]
  rw [if_neg (by omega), if_neg (by simp)]
  simp [bP, putB, rB, List.map_take, List.map_drop]
theorem f26r {p : List Nat} {l : List Pl} (v : V p l) (a n : Nat) (ha : 2 ≤ a ∧ a + 1 ≤ 128) (hu : usedAns l a 1 = true) (H : Heap) (bb : Nat) (hb : H[bb]? = some ⟨0, true, 5, 1, [[.int .u8 (n : Int)]]⟩) :
    cal (evC cprog) true 26 [eB p, .int .i64 (a : Int), .ref bb 0 1 0 1] H = some (.tup [eB (putB p a [n]), .int .i64 0], H) := by
  have h22 := fun H => f22 p v.pg (a : Int) ((1 : Nat) : Int) H
  have hiu := v.isUsed (a := a) (n := 1) (by omega)
  rw [hiu, hu] at h22
  have h128 := v.len
  have h39 := fun H => f39 p (by intro h; rw [h] at h128; simp at h128) (by omega) H
  rw [h128] at h39
  have hsl := fun (H : Heap) b v => slr_B (H := H) b v a (by omega)
  have hcp := copy_1 H p a n bb h128 (by omega) hb
  have hpl := putB_len (p := p) (a := a) (b := [n]) h128 (by simp; omega)
  rw [cal_of at26]
  simp only [c26, h22, h39, hsl, hcp, asNat_cast, evX, Int.reduceEq, Int.reduceLT, Int.reduceLE, Nat.reduceMul, Nat.reduceMod, evW, fn_eq, evR, Nat.reduceAdd, Nat.reduceLT, Nat.reduceLeDiff, reduceIte, Nat.reduceEqDiff, reduceCtorEq, argEnv, eq_self, if_true, if_false]
  repeat' ((first | rw [guardK_cases] | rw [condK_bool] | rw [guardD_cases]); split <;> simp only [c26, h22, h39, hsl, hcp, asNat_cast, evX, Int.reduceEq, Int.reduceLT, Int.reduceLE, Nat.reduceMul, Nat.reduceMod, evW, evR, Nat.reduceAdd, Nat.reduceLT, Nat.reduceLeDiff, reduceIte, Nat.reduceEqDiff, reduceCtorEq, argEnv, eq_self, if_true, if_false, *])
  have hc := calF_B (H := H) (X := []) (v := 0) (putB p a [n]) (by intro h; rw [h] at hpl; simp at hpl) 0
  rw [hpl] at hc
  exact hc
/-- what was taken, in memory -/
def AllAt (X : Heap) (rv : AV) (rows : List (List AV)) : Prop :=
  (rows = [] ∧ (rv = .nils ∨ rv = .nil0)) ∨ (rows ≠ [] ∧ ∃ b v els, X[b]? = some ⟨v, true, 49, 2, els⟩ ∧ els.take rows.length = rows ∧ ((rv = .ref b v 2 0 rows.length ∧ els = rows) ∨ rv = .cref b v 2 0 rows.length))
theorem AllAt.more {X : Heap} {rv : AV} {rows : List (List AV)} (h : AllAt X rv rows) (Y : Heap) : AllAt (X ++ Y) rv rows := by
  rcases h with h | ⟨h1, b, v, els, h2, h3⟩
  · exact .inl h
  · exact .inr ⟨h1, b, v, els, by rw [List.getElem?_append_left (List.getElem?_eq_some_iff.1 h2).1]; exact h2, h3⟩
theorem AllAt.tup {X : Heap} {rv : AV} {rows : List (List AV)} (h : AllAt X rv rows) : rv.isTup = false := by
  rcases h with ⟨_, rfl | rfl⟩ | ⟨_, b, v, els, _, _, ⟨rfl, _⟩ | rfl⟩ <;> rfl
theorem AllAt.slat {X : Heap} {rv : AV} {rows : List (List AV)} (h : AllAt X rv rows) (hr : ∀ r ∈ rows, r.length = 2) : SlAt X 2 rv rows := by
  rcases h with ⟨rfl, rfl | rfl⟩ | ⟨h1, b, v, els, h2, h3, h4⟩
  · exact ⟨rfl, fun i row hi => by simp at hi⟩
  · exact ⟨rfl, fun i row hi => by simp at hi⟩
  · have hc : curBlk X b v 2 = some ⟨v, true, 49, 2, els⟩ := by simp [curBlk, h2]
    have key : ∀ (i : Nat) row, rows[i]? = some row → i < rows.length ∧ row.length = 2 ∧ els[i]? = some row := fun i row hi => by
      have hlt := (List.getElem?_eq_some_iff.1 hi).1
      refine ⟨hlt, hr row (List.mem_of_getElem? hi), ?_⟩
      rw [← h3, List.getElem?_take, if_pos hlt] at hi
      exact hi
    rcases h4 with ⟨rfl, _⟩ | rfl
    · refine ⟨rfl, fun i row hi => ⟨(key i row hi).2.1, .ptr b v 2 i 0, ?_, .inr ⟨b, v, 2, i, _, rfl, hc, (key i row hi).2.2⟩⟩⟩
      simp only [iaddrK, asNat_cast, refK, Nat.zero_add]
      rw [if_pos ⟨(key i row hi).1, trivial⟩]
    · refine ⟨rfl, fun i row hi => ⟨(key i row hi).2.1, .ptr b v 2 i 0, ?_, .inr ⟨b, v, 2, i, _, rfl, hc, (key i row hi).2.2⟩⟩⟩
      simp only [iaddrK, asNat_cast, refK, Nat.zero_add]
      rw [if_pos ⟨(key i row hi).1, trivial⟩]
theorem AllAt.snoc {X : Heap} {rv : AV} {rows : List (List AV)} (h : AllAt X rv rows) (row : List AV) (hr : row.length = 2) (hl : rows.length ≤ 1000) :
    ∃ rv' X', appK 49 2 16 false (X ++ [⟨0, true, 49, 2, [row]⟩]) (some rv) (some (.ref X.length 0 2 0 1)) = some (rv', X') ∧ rv'.isTup = false ∧ AllAt X' rv' (rows ++ [row]) := by
  have hs : srcRows (X ++ [⟨0, true, 49, 2, [row]⟩]) (.ref X.length 0 2 0 1) = some [row] := by simp [srcRows, rowsOf, curBlk]
  have hh : headOk 2 [row] = true := by simp [headOk, hr]
  rcases h with ⟨rfl, h⟩ | ⟨h1, b, v, els, h2, h3, h4⟩
  · refine ⟨.ref (X ++ [(⟨0, true, 49, 2, [row]⟩ : Blk)]).length 0 2 0 1, (X ++ [(⟨0, true, 49, 2, [row]⟩ : Blk)]) ++ [⟨0, true, 49, 2, [row]⟩], ?_, rfl, .inr ⟨by simp, (X ++ [(⟨0, true, 49, 2, [row]⟩ : Blk)]).length, 0, [row], by simp, by simp, .inl ⟨rfl, rfl⟩⟩⟩
    rcases h with rfl | rfl <;> simp [appK, hs, evApp, hh, reach]
  · have hbl := (List.getElem?_eq_some_iff.1 h2).1
    have hc : curBlk (X ++ [⟨0, true, 49, 2, [row]⟩]) b v 2 = some ⟨v, true, 49, 2, els⟩ := by simp [curBlk, List.getElem?_append_left hbl, h2]
    rcases h4 with ⟨rfl, rfl⟩ | rfl
    · refine ⟨.ref b (v + 1) 2 0 (els.length + 1), (X ++ [(⟨0, true, 49, 2, [row]⟩ : Blk)]).set b ⟨v + 1, true, 49, 2, els ++ [row]⟩, ?_, rfl, .inr ⟨by simp, b, v + 1, els ++ [row], ?_, ?_, .inl ⟨by simp, rfl⟩⟩⟩
      · simp only [appK, hs, evApp, hh, hc, List.isEmpty_cons, Bool.false_eq_true, if_false, Bool.true_eq_false, and_self, if_true, List.length_cons, List.length_nil, Nat.zero_add, false_and]
        rw [if_pos ⟨by unfold reach; omega, by unfold reach; omega⟩, List.take_length]
      · rw [List.getElem?_set_self (by simp; omega)]
      · rw [List.take_of_length_le (Nat.le_refl _)]
    · refine ⟨.ref (X ++ [(⟨0, true, 49, 2, [row]⟩ : Blk)]).length 0 2 0 (rows.length + 1), (X ++ [(⟨0, true, 49, 2, [row]⟩ : Blk)]) ++ [⟨0, true, 49, 2, rows ++ [row]⟩], ?_, rfl, .inr ⟨by simp, (X ++ [(⟨0, true, 49, 2, [row]⟩ : Blk)]).length, 0, rows ++ [row], by simp, by rw [List.take_length], .inl ⟨by simp, rfl⟩⟩⟩
      simp only [appK, hs, evApp, hh, hc, List.isEmpty_cons, Bool.false_eq_true, if_false, Bool.true_eq_false, and_self, if_true, List.length_cons, List.length_nil, Nat.zero_add, true_and]
      rw [if_pos ⟨by unfold reach; omega, by unfold reach; omega⟩, List.drop_zero, h3]
/-- one goes: what is in front, what is behind, and both joined -/
theorem AllAt.cut {X : Heap} {rv : AV} {rows : List (List AV)} (h : AllAt X rv rows) (hr : ∀ r ∈ rows, r.length = 2) (k : Nat) (hk : k < rows.length) (hl : rows.length ≤ 1000) :
    ∃ s1 s2 rv' X', evSlc X 2 rv none (some k) (some k) = some s1 ∧ evSlc X 2 rv (some (k + 1)) none none = some s2 ∧ appK 49 2 16 false X (some s1) (some s2) = some (rv', X') ∧ rv'.isTup = false ∧ s1.isTup = false ∧ s2.isTup = false ∧ AllAt X' rv' (rows.take k ++ rows.drop (k + 1)) ∧ ∃ Y, X' = X ++ Y := by
  rcases h with ⟨rfl, _⟩ | ⟨h1, b, v, els, h2, h3, h4⟩
  · simp at hk
  have hbl := (List.getElem?_eq_some_iff.1 h2).1
  have hc : curBlk X b v 2 = some ⟨v, true, 49, 2, els⟩ := by simp [curBlk, h2]
  have hel : rows.length ≤ els.length := by have := congrArg List.length h3; simp at this; omega
  have htk : ∀ j, j ≤ rows.length → els.take j = rows.take j := fun j hj => by rw [← h3, List.take_take, Nat.min_eq_left hj]
  -- what is behind
  have hs2 : ∃ s2, evSlc X 2 rv (some (k + 1)) none none = some s2 ∧ srcRows X s2 = some (rows.drop (k + 1)) ∧ s2.isTup = false := by
    have hdr : (els.drop (k + 1)).take (rows.length - (k + 1)) = rows.drop (k + 1) := by
      conv => rhs; rw [← h3]
      rw [List.drop_take]
    rcases h4 with ⟨rfl, rfl⟩ | rfl
    · refine ⟨.ref b v 2 (k + 1) (els.length - (k + 1)), ?_, ?_, rfl⟩
      · simp only [evSlc, if_true, Option.getD_some, Option.getD_none]
        rw [if_pos ⟨by omega, Nat.le_refl _⟩]; simp
      · cases hq : els.length - (k + 1) with
        | zero => rw [List.drop_eq_nil_of_le (by omega)]; rfl
        | succ m => rw [hq] at hdr; simp only [srcRows, rowsOf, hc, Option.map_some, hdr]
    · by_cases hq : k + 1 < rows.length
      · refine ⟨.cref b v 2 (k + 1) (rows.length - (k + 1)), ?_, ?_, rfl⟩
        · simp only [evSlc, if_true, Option.getD_some, Option.getD_none]
          rw [if_pos hq]; simp
        · simp only [srcRows, rowsOf, hc, Option.map_some, hdr]
      · refine ⟨.nil0, ?_, ?_, rfl⟩
        · simp only [evSlc, if_true, Option.getD_some, Option.getD_none]
          rw [if_neg hq, if_pos (by omega)]
        · rw [List.drop_eq_nil_of_le (by omega)]; rfl
  -- what is in front
  have hs1 : evSlc X 2 rv none (some k) (some k) = some (if 0 < k then .cref b v 2 0 k else .nil0) := by
    rcases h4 with ⟨rfl, _⟩ | rfl <;>
    · simp only [evSlc, if_true, Option.getD_none]
      rw [if_pos ⟨trivial, by omega⟩]
      by_cases h0 : 0 < k
      · rw [if_pos h0, if_pos h0]; simp
      · rw [if_neg h0, if_neg h0, if_pos (by omega)]
  obtain ⟨s2, e2, r2, t2⟩ := hs2
  refine ⟨if 0 < k then .cref b v 2 0 k else .nil0, s2, ?_⟩
  have hd : ∀ r ∈ rows.drop (k + 1), r.length = 2 := fun r hr' => hr r (List.mem_of_mem_drop hr')
  by_cases h0 : 0 < k
  · rw [if_pos h0] at hs1 ⊢
    cases hD : rows.drop (k + 1) with
    | nil =>
      refine ⟨.cref b v 2 0 k, X, hs1, e2, ?_, rfl, rfl, t2, .inr ⟨?_, b, v, els, h2, ?_, .inr ?_⟩, [], by simp⟩
      · simp [appK, r2, hD, evApp, evLen]
      · intro e
        have := congrArg List.length e
        rw [List.append_nil, List.length_take, List.length_nil] at this
        omega
      · rw [List.append_nil, List.length_take, Nat.min_eq_left (by omega)]; exact htk k (by omega)
      · rw [List.append_nil, List.length_take, Nat.min_eq_left (by omega)]
    | cons r rs =>
      have hh : headOk 2 (r :: rs) = true := by simp [headOk, hd r (by rw [hD]; exact List.mem_cons_self ..)]
      have hlen : (r :: rs).length + k + 1 = rows.length := by rw [← hD]; simp; omega
      refine ⟨.ref X.length 0 2 0 (k + (r :: rs).length), X ++ [⟨0, true, 49, 2, rows.take k ++ r :: rs⟩], hs1, e2, ?_, rfl, rfl, t2, .inr ⟨by simp, X.length, 0, rows.take k ++ r :: rs, by simp, by rw [List.take_length], .inl ⟨?_, rfl⟩⟩, _, rfl⟩
      · simp only [appK, r2, hD, evApp, hh, hc, List.isEmpty_cons, Bool.false_eq_true, if_false, Bool.true_eq_false, and_self, if_true, true_and, List.drop_zero]
        rw [if_pos ⟨by unfold reach; omega, by unfold reach; omega⟩, htk k (by omega)]
      · rw [List.length_append, List.length_take, Nat.min_eq_left (by omega)]
  · have hk0 : k = 0 := by omega
    subst hk0
    rw [if_neg h0] at hs1 ⊢
    cases hD : rows.drop (0 + 1) with
    | nil =>
      refine ⟨.nil0, X, hs1, e2, ?_, rfl, rfl, t2, .inl ⟨rfl, .inr rfl⟩, [], by simp⟩
      simp [appK, r2, hD, evApp, evLen]
    | cons r rs =>
      have hh : headOk 2 (r :: rs) = true := by simp [headOk, hd r (by rw [hD]; exact List.mem_cons_self ..)]
      have hlen : (r :: rs).length + 0 + 1 = rows.length := by rw [← hD]; simp; omega
      refine ⟨.ref X.length 0 2 0 (r :: rs).length, X ++ [⟨0, true, 49, 2, r :: rs⟩], hs1, e2, ?_, rfl, rfl, t2, .inr ⟨by simp, X.length, 0, r :: rs, by simp, by simp, .inl ⟨rfl, rfl⟩⟩, _, rfl⟩
      simp only [appK, r2, hD, evApp, hh, List.isEmpty_cons, Bool.false_eq_true, if_false, Bool.true_eq_false]
      rw [if_pos ⟨by unfold reach; omega, by unfold reach; omega⟩]
theorem l7_0 (s : AV) (H : Heap) (rv : AV) (all : List Pl) (hs : SlAt H 2 rv (all.map rPl)) (hl : all.length ≤ 1000) (hb : ∀ x ∈ all, x.1 < 1000 ∧ x.2 < 1000) (ii fr qv : AV) (n a : Nat) (hn : n < 1000) (ha : a < 1000) (hd : ∀ y ∈ all, ¬ (a < y.1 + y.2 ∧ y.1 < a + n)) (st : St)
    (hE : keepEnv st.1 [0, 4, 5, 6, 7, 10, 11, 13] = [(0, s), (4, rv), (5, ii), (6, .int .i64 (n : Int)), (7, fr), (10, qv), (11, .int .i64 (a : Int)), (13, .int .i64 0)]) (hH : st.2 = H)
    (z : Option (CX × St)) (hz : itLim (evCode (evC cprog) itLim c7_l0) st = z) : ∃ T, z = some (.exit 2, T, H) ∧ keepEnv T [0, 4, 5, 6, 7, 10, 11] = [(0, s), (4, rv), (5, ii), (6, .int .i64 (n : Int)), (7, fr), (10, qv), (11, .int .i64 (a : Int))] := by
  have hlen := hs.len
  simp only [List.length_map] at hlen
  have L := loop_rule (σ := Nat) (m := [0, 4, 5, 6, 7, 10, 11, 13]) (env := fun i => [(0, s), (4, rv), (5, ii), (6, .int .i64 (n : Int)), (7, fr), (10, qv), (11, .int .i64 (a : Int)), (13, .int .i64 (i : Int))]) (hp := fun _ => H)
    (P := fun _ r => ∃ T, r = (.exit 2, T, H) ∧ keepEnv T [0, 4, 5, 6, 7, 10, 11] = [(0, s), (4, rv), (5, ii), (6, .int .i64 (n : Int)), (7, fr), (10, qv), (11, .int .i64 (a : Int))])
    (mu := fun i => all.length - i) (I := fun i => i ≤ all.length) (evCode (evC cprog) itLim c7_l0) ?_ 0 st (Nat.zero_le _) hE hH z hz
  · obtain ⟨_, rfl, T, rfl, h⟩ := L
    exact ⟨T, rfl, h⟩
  · intro i hi E hE
    by_cases hlt : i < all.length
    · obtain ⟨x, hx⟩ : ∃ x, all[i]? = some x := ⟨_, List.getElem?_eq_getElem hlt⟩
      have hxb := hb x (List.mem_of_getElem? hx)
      have hdx := hd x (List.mem_of_getElem? hx)
      have hii : (i : Int) < (all.length : Int) := by omega
      obtain ⟨_, pp, hpp, hpa⟩ := hs.get i (rPl x) (by rw [List.getElem?_map, hx]; rfl)
      have f0 := hpa.faddr 0
      have f1 := hpa.faddr 1
      have c0 := hpa.fld 0 1
      have c1 := hpa.fld 1 1
      simp only [rPl, List.getElem?_cons_zero, List.getElem?_cons_succ] at c0 c1
      have hw1 := wrapA (a := x.1) (b := x.2) (by omega) (by omega)
      have hw2 := wrapA (a := a) (b := n) (by omega) (by omega)
      have hwi := wrapA1 (a := i) (by omega)
      by_cases d1 : a < x.1 + x.2
      · have d1' : (a : Int) < ((x.1 + x.2 : Nat) : Int) := by omega
        have d2' : ¬ (x.1 : Int) < ((a + n : Nat) : Int) := by omega
        simp only [c7_l0, hE, hii, hlen, hpp, f0, f1, c0, c1, hw1, hw2, d1', d2', hwi, evX, Int.reduceEq, Int.reduceLT, Int.reduceLE, Nat.reduceMul, Nat.reduceMod, evW, fn_eq, evR, Nat.reduceAdd, Nat.reduceLT, Nat.reduceLeDiff, reduceIte, Nat.reduceEqDiff, reduceCtorEq, argEnv, eq_self, if_true, if_false]
        repeat' ((first | rw [guardK_cases] | rw [condK_bool] | rw [guardD_cases]); split <;> simp only [c7_l0, hE, hii, hlen, hpp, f0, f1, c0, c1, hw1, hw2, d1', d2', hwi, evX, Int.reduceEq, Int.reduceLT, Int.reduceLE, Nat.reduceMul, Nat.reduceMod, evW, evR, Nat.reduceAdd, Nat.reduceLT, Nat.reduceLeDiff, reduceIte, Nat.reduceEqDiff, reduceCtorEq, argEnv, eq_self, if_true, if_false, *])
        exact q_next (i + 1) (by rfl) rfl (by omega) (by omega) fun r h => h
      · have d1' : ¬ (a : Int) < ((x.1 + x.2 : Nat) : Int) := by omega
        simp only [c7_l0, hE, hii, hlen, hpp, f0, f1, c0, c1, hw1, d1', hwi, evX, Int.reduceEq, Int.reduceLT, Int.reduceLE, Nat.reduceMul, Nat.reduceMod, evW, fn_eq, evR, Nat.reduceAdd, Nat.reduceLT, Nat.reduceLeDiff, reduceIte, Nat.reduceEqDiff, reduceCtorEq, argEnv, eq_self, if_true, if_false]
        repeat' ((first | rw [guardK_cases] | rw [condK_bool] | rw [guardD_cases]); split <;> simp only [c7_l0, hE, hii, hlen, hpp, f0, f1, c0, c1, hw1, d1', hwi, evX, Int.reduceEq, Int.reduceLT, Int.reduceLE, Nat.reduceMul, Nat.reduceMod, evW, evR, Nat.reduceAdd, Nat.reduceLT, Nat.reduceLeDiff, reduceIte, Nat.reduceEqDiff, reduceCtorEq, argEnv, eq_self, if_true, if_false, *])
        exact q_next (i + 1) (by rfl) rfl (by omega) (by omega) fun r h => h
    · have hii : ¬ (i : Int) < (all.length : Int) := by omega
      simp only [c7_l0, hE, hii, hlen, evX, Int.reduceEq, Int.reduceLT, Int.reduceLE, Nat.reduceMul, Nat.reduceMod, evW, fn_eq, evR, Nat.reduceAdd, Nat.reduceLT, Nat.reduceLeDiff, reduceIte, Nat.reduceEqDiff, reduceCtorEq, argEnv, eq_self, if_true, if_false]
      repeat' ((first | rw [guardK_cases] | rw [condK_bool] | rw [guardD_cases]); split <;> simp only [c7_l0, hE, hii, hlen, evX, Int.reduceEq, Int.reduceLT, Int.reduceLE, Nat.reduceMul, Nat.reduceMod, evW, evR, Nat.reduceAdd, Nat.reduceLT, Nat.reduceLeDiff, reduceIte, Nat.reduceEqDiff, reduceCtorEq, argEnv, eq_self, if_true, if_false, *])
      exact q_exit ⟨_, rfl, by rfl⟩
end Go.Proofs.Ythgcnlmmgilhjaa.Code

/- page: moves: the walk; the law PageMoves. -/
set_option linter.unusedSimpArgs false
set_option linter.unusedVariables false
namespace Go.Proofs.Ythgcnlmmgilhjaa.Code
open Go.Proofs.Ythgcnlmmgilhjaa.Ev

def eS (s : List Int) : AV := .lst (s.map fun n => [.int .i8 n])
structure MS where
  i : Nat
  p : List Nat
  l : List Pl
  all : List Pl
  X : Heap
  rv : AV
theorem all_len {l : List Pl} : l.length = 0 → l = [] := List.eq_nil_of_length_eq_zero
theorem l7_1 (s : List Int) (hs : ∀ n ∈ s, -128 ≤ n ∧ n ≤ 127) (hsl : s.length ≤ 60) (st : St) (hE : keepEnv st.1 [0, 3, 4, 5] = [(0, eS s), (3, eB fmt), (4, .nils), (5, .int .i64 0)]) (hH : st.2 = [])
    (z : Option (CX × St)) (hz : itLim (evCode (evC cprog) itLim c7_l1) st = z) : ∃ T X, z = some (.exit 0, T, X) ∧ keepEnv T [3] = [(3, eB fmt)] := by
  have hlS : lenK false (some (eS s)) = some (.int .i64 (s.length : Int)) := by simp [eS, lenK, evLen]
  have L := loop_rule (σ := MS) (m := [0, 3, 4, 5]) (env := fun x => [(0, eS s), (3, eB x.p), (4, x.rv), (5, .int .i64 (x.i : Int))]) (hp := fun x => x.X)
    (P := fun _ r => ∃ T X, r = (.exit 0, T, X) ∧ keepEnv T [3] = [(3, eB fmt)])
    (mu := fun x => 2 * (s.length - x.i) + x.all.length) (I := fun x => Inv x.p x.l x.all ∧ AllAt x.X x.rv (x.all.map rPl) ∧ x.all.length ≤ x.i ∧ (x.i ≤ s.length ∨ x.i + x.all.length ≤ 2 * s.length)) (evCode (evC cprog) itLim c7_l1) ?_ ⟨0, fmt, [(2, 126)], [], [], .nils⟩ st ⟨Inv.fmt, .inl ⟨rfl, .inl rfl⟩, Nat.le_refl _, .inl (Nat.zero_le _)⟩ hE hH z hz
  · obtain ⟨_, rfl, T, X, rfl, h⟩ := L
    exact ⟨T, X, rfl, h⟩
  · intro ⟨i, p, l, all, X, rv⟩ ⟨hI, hA, hb1, hb2⟩ E hE
    simp only at hI hA hb1 hb2 hE ⊢
    have hrows : ∀ r ∈ all.map rPl, r.length = 2 := pl_rows all
    have hsl := hA.slat hrows
    have hlen := hsl.len
    simp only [List.length_map] at hlen
    have hwi := wrapA1 (a := i) (by omega)
    have hS := hI.v.sum
    have h11 := fun H => f11 p hI.v.pg H
    rw [hI.v.places, hS.1] at h11
    by_cases hlt : i < s.length
    · have hii : (i : Int) < (s.length : Int) := by omega
      obtain ⟨n, hn⟩ : ∃ n, s[i]? = some n := ⟨_, List.getElem?_eq_getElem hlt⟩
      have hnb := hs n (List.mem_of_getElem? hn)
      have fS : iaddrK 1 (some (eS s)) (some (.int .i64 (i : Int))) = some (.fptr [.int .i8 n]) := by
        unfold eS
        rw [iaddr_lst, asNat_cast, atK_some, List.getElem?_map, hn]; rfl
      have hld : ∀ (H : Heap) (a : AV), loadK false 1 H (some (.fptr [a])) = some a := fun _ _ => rfl
      have hwn : IntKind.i64.wrap n = n := wrap_i64 (by omega) (by omega)
      by_cases hn0 : 0 ≤ n
      · obtain ⟨n, rfl⟩ : ∃ k : Nat, n = (k : Int) := ⟨n.toNat, by omega⟩
        have h28 := fun H => f28 p hI.v.pg (n : Int) H
        by_cases hn1 : (1 : Int) ≤ (n : Int)
        · by_cases hn2 : (n : Int) ≤ 126
          · have hev := @evn_le n
            cases hfi : fitIx l (evn n) with
            | none =>
              have htk : takeP p n = ([], 0, 5) := by
                unfold takeP
                rw [hI.v.ans, if_neg (by simp), if_neg (by omega)]
                simp only [Int.toNat_natCast, hfi]
              rw [htk] at h28
              simp only [c7_l1, hE, hlen, hlS, hii, fS, hld, hwn, hn0, hn1, hn2, h28, h11, hwi, evX, Int.reduceEq, Int.reduceLT, Int.reduceLE, Nat.reduceMul, Nat.reduceMod, evW, fn_eq, evR, Nat.reduceAdd, Nat.reduceLT, Nat.reduceLeDiff, reduceIte, Nat.reduceEqDiff, reduceCtorEq, argEnv, eq_self, if_true, if_false]
              repeat' ((first | rw [guardK_cases] | rw [condK_bool] | rw [guardD_cases]); split <;> simp only [c7_l1, hE, hlen, hlS, hii, fS, hld, hwn, hn0, hn1, hn2, h28, h11, hwi, evX, Int.reduceEq, Int.reduceLT, Int.reduceLE, Nat.reduceMul, Nat.reduceMod, evW, evR, Nat.reduceAdd, Nat.reduceLT, Nat.reduceLeDiff, reduceIte, Nat.reduceEqDiff, reduceCtorEq, argEnv, eq_self, if_true, if_false, *])
              exact q_next ⟨i + 1, p, l, all, X, rv⟩ (by rfl) rfl ⟨hI, hA, by simp only; omega, by simp only; omega⟩ (by simp only; omega) fun r h => h
            | some j =>
              obtain ⟨hil, hfit, _⟩ := List.findIdx?_eq_some_iff_getElem.1 hfi
              have hx : l[j]? = some l[j] := List.getElem?_eq_getElem hil
              generalize l[j] = x at *
              simp only [decide_eq_true_eq] at hfit
              have htk : takeP p n = (chainB (zeroP p x.1 (evn n)) (takeL l j (evn n)), x.1, 0) := by
                unfold takeP
                rw [hI.v.ans, if_neg (by simp), if_neg (by omega)]
                simp only [Int.toNat_natCast, hfi, hx]
              rw [htk] at h28
              obtain ⟨vq, hu1, hI2⟩ := hI.take hx (n := n) (by omega) hfit
              have hxo := okL_at hI.v.ok hx
              have hge := hxo.ge
              have hxf := hxo.fit
              have hsm := take_sum hx hfit
              have hdis : ∀ y ∈ all, ¬ (x.1 < y.1 + y.2 ∧ y.1 < x.1 + n) := fun y hy hc => by
                have hr := hI.rng y hy
                have hey := @evn_le y.2
                by_cases h : x.1 ≤ y.1
                · exact hI.apart y hy y.1 ⟨Nat.le_refl _, by omega⟩ ⟨x, List.mem_of_getElem? hx, h, by omega⟩
                · exact hI.apart y hy x.1 ⟨by omega, by omega⟩ ⟨x, List.mem_of_getElem? hx, Nat.le_refl _, by omega⟩
              generalize chainB (zeroP p x.1 (evn n)) (takeL l j (evn n)) = q at *
              generalize takeL l j (evn n) = L at *
              have hlp := l7_0 (eS s) X rv all hsl (by omega) (fun y hy => by have := hI.rng y hy; have := @evn_le y.2; omega) (.int .i64 (i : Int)) (.int .i64 ((sumN l : Nat) : Int)) (eB q) n x.1 (by omega) (by omega) hdis
              have hux := wrapU (n := x.1) (by omega)
              have h26 := f26r vq x.1 x.1 (by omega) hu1 (X ++ [⟨0, true, 5, 1, [[.int .u8 (x.1 : Int)]]⟩]) X.length (by simp)
              have hA1 := hA.more [⟨0, true, 5, 1, [[.int .u8 (x.1 : Int)]]⟩]
              obtain ⟨rv', X', e1, t1, hA2⟩ := hA1.snoc [.int .i64 (x.1 : Int), .int .i64 (n : Int)] rfl (by simp; omega)
              rw [show all.map rPl ++ [[.int .i64 (x.1 : Int), .int .i64 (n : Int)]] = (all ++ [(x.1, n)]).map rPl by simp [rPl]] at hA2
              generalize putB q x.1 [x.1] = q2 at *
              have hS2 := hI2.v.sum
              have h11q := fun H => f11 q2 hI2.v.pg H
              rw [hI2.v.places, hS2.1] at h11q
              have h13q := fun H => f13 q2 hI2.v.pg H
              rw [hI2.v.ans] at h13q
              have hwe := wrapA (a := n) (b := n % 2) (by omega) (by omega)
              rw [show n + n % 2 = evn n from rfl] at hwe
              have hsu : IntKind.i64.wrap (((sumN l : Nat) : Int) - ((evn n : Nat) : Int)) = ((sumN L : Nat) : Int) := by rw [wrap_i64 (by omega) (by omega)]; omega
              simp only [List.append_assoc, List.length_append, List.length_cons, List.length_nil, Nat.zero_add, List.cons_append, List.nil_append] at e1
              clear htk hdis
              simp only [c7_l1, hE, hlen, hlS, hii, fS, hld, hwn, hn0, hn1, hn2, h28, h11, evX, Int.reduceEq, Int.reduceLT, Int.reduceLE, Nat.reduceMul, Nat.reduceMod, evW, fn_eq, evR, Nat.reduceAdd, Nat.reduceLT, Nat.reduceLeDiff, reduceIte, Nat.reduceEqDiff, reduceCtorEq, argEnv, eq_self, if_true, if_false]
              repeat' ((first | rw [guardK_cases] | rw [condK_bool] | rw [guardD_cases]); split <;> simp only [c7_l1, hE, hlen, hlS, hii, fS, hld, hwn, hn0, hn1, hn2, h28, h11, evX, Int.reduceEq, Int.reduceLT, Int.reduceLE, Nat.reduceMul, Nat.reduceMod, evW, evR, Nat.reduceAdd, Nat.reduceLT, Nat.reduceLeDiff, reduceIte, Nat.reduceEqDiff, reduceCtorEq, argEnv, eq_self, if_true, if_false, *])
              generalize hz : itLim _ _ = z
              obtain ⟨T, rfl, hT⟩ := hlp _ (by rfl) rfl z hz
              clear hz hlp
              simp only [hT, hux, h26, e1, t1, h11q, h13q, tm2, hwe, hsu, hwi, evX, Int.reduceEq, Int.reduceLT, Int.reduceLE, Nat.reduceMul, Nat.reduceMod, evW, fn_eq, evR, Nat.reduceAdd, Nat.reduceLT, Nat.reduceLeDiff, reduceIte, Nat.reduceEqDiff, reduceCtorEq, argEnv, eq_self, if_true, if_false]
              repeat' ((first | rw [guardK_cases] | rw [condK_bool] | rw [guardD_cases]); split <;> simp only [hT, hux, h26, e1, t1, h11q, h13q, tm2, hwe, hsu, hwi, evX, Int.reduceEq, Int.reduceLT, Int.reduceLE, Nat.reduceMul, Nat.reduceMod, evW, evR, Nat.reduceAdd, Nat.reduceLT, Nat.reduceLeDiff, reduceIte, Nat.reduceEqDiff, reduceCtorEq, argEnv, eq_self, if_true, if_false, *])
              exact q_next ⟨i + 1, q2, L, all ++ [(x.1, n)], X', rv'⟩ (by rfl) rfl ⟨hI2, hA2, by simp; omega, by simp; omega⟩ (by simp; omega) fun r h => h
          · have htk : takeP p n = ([], 0, 2) := by
              unfold takeP
              rw [hI.v.ans, if_neg (by simp), if_pos (by omega)]
            rw [htk] at h28
            simp only [c7_l1, hE, hlen, hlS, hii, fS, hld, hwn, hn0, hn1, hn2, h28, h11, hwi, evX, Int.reduceEq, Int.reduceLT, Int.reduceLE, Nat.reduceMul, Nat.reduceMod, evW, fn_eq, evR, Nat.reduceAdd, Nat.reduceLT, Nat.reduceLeDiff, reduceIte, Nat.reduceEqDiff, reduceCtorEq, argEnv, eq_self, if_true, if_false]
            repeat' ((first | rw [guardK_cases] | rw [condK_bool] | rw [guardD_cases]); split <;> simp only [c7_l1, hE, hlen, hlS, hii, fS, hld, hwn, hn0, hn1, hn2, h28, h11, hwi, evX, Int.reduceEq, Int.reduceLT, Int.reduceLE, Nat.reduceMul, Nat.reduceMod, evW, evR, Nat.reduceAdd, Nat.reduceLT, Nat.reduceLeDiff, reduceIte, Nat.reduceEqDiff, reduceCtorEq, argEnv, eq_self, if_true, if_false, *])
            exact q_next ⟨i + 1, p, l, all, X, rv⟩ (by rfl) rfl ⟨hI, hA, by simp only; omega, by simp only; omega⟩ (by simp only; omega) fun r h => h
        · have htk : takeP p n = ([], 0, 2) := by
            unfold takeP
            rw [hI.v.ans, if_neg (by simp), if_pos (by omega)]
          rw [htk] at h28
          simp only [c7_l1, hE, hlen, hlS, hii, fS, hld, hwn, hn0, hn1, h28, h11, hwi, evX, Int.reduceEq, Int.reduceLT, Int.reduceLE, Nat.reduceMul, Nat.reduceMod, evW, fn_eq, evR, Nat.reduceAdd, Nat.reduceLT, Nat.reduceLeDiff, reduceIte, Nat.reduceEqDiff, reduceCtorEq, argEnv, eq_self, if_true, if_false]
          repeat' ((first | rw [guardK_cases] | rw [condK_bool] | rw [guardD_cases]); split <;> simp only [c7_l1, hE, hlen, hlS, hii, fS, hld, hwn, hn0, hn1, h28, h11, hwi, evX, Int.reduceEq, Int.reduceLT, Int.reduceLE, Nat.reduceMul, Nat.reduceMod, evW, evR, Nat.reduceAdd, Nat.reduceLT, Nat.reduceLeDiff, reduceIte, Nat.reduceEqDiff, reduceCtorEq, argEnv, eq_self, if_true, if_false, *])
          exact q_next ⟨i + 1, p, l, all, X, rv⟩ (by rfl) rfl ⟨hI, hA, by simp only; omega, by simp only; omega⟩ (by simp only; omega) fun r h => h
      · by_cases hal : (0 : Int) < (all.length : Int)
        · obtain ⟨t, ht⟩ : ∃ t : Nat, -n = (t : Int) := ⟨(-n).toNat, by omega⟩
          have hwng : IntKind.i64.wrap (0 - n) = (t : Int) := by rw [wrap_i64 (by omega) (by omega)]; omega
          have htm : (t : Int).tmod (all.length : Int) = ((t % all.length : Nat) : Int) := rfl
          have hal0 : ¬ (all.length : Int) = 0 := by omega
          clear ht

          have hkl : t % all.length < all.length := Nat.mod_lt _ (by omega)
          obtain ⟨x, hx⟩ : ∃ x, all[t % all.length]? = some x := ⟨_, List.getElem?_eq_getElem hkl⟩
          have hxm := List.mem_of_getElem? hx
          have hr := hI.rng x hxm
          have hev := @evn_le x.2
          have hgo := hI.used hxm
          have ga := givAt_of hI.v.ok hgo
          have hI2 := hI.give hx ga
          have hsm := give_sum ga
          have hgp : giveP p x.1 x.2 = (chainB (gQ p (giv l x.1 (x.1 + evn x.2)).2.2.1 x.1 (x.1 + evn x.2)) (gL (giv l x.1 (x.1 + evn x.2)).1 (giv l x.1 (x.1 + evn x.2)).2.1 (giv l x.1 (x.1 + evn x.2)).2.2.1 (giv l x.1 (x.1 + evn x.2)).2.2.2 x.1 (x.1 + evn x.2)), 0) := by
            unfold giveP
            rw [hI.v.ans]
            simp only [Int.toNat_natCast]
            rw [if_neg (by simp), if_neg (by rw [hgo]; simp)]
            rfl
          generalize chainB (gQ p (giv l x.1 (x.1 + evn x.2)).2.2.1 x.1 (x.1 + evn x.2)) (gL (giv l x.1 (x.1 + evn x.2)).1 (giv l x.1 (x.1 + evn x.2)).2.1 (giv l x.1 (x.1 + evn x.2)).2.2.1 (giv l x.1 (x.1 + evn x.2)).2.2.2 x.1 (x.1 + evn x.2)) = q at *
          generalize gL (giv l x.1 (x.1 + evn x.2)).1 (giv l x.1 (x.1 + evn x.2)).2.1 (giv l x.1 (x.1 + evn x.2)).2.2.1 (giv l x.1 (x.1 + evn x.2)).2.2.2 x.1 (x.1 + evn x.2) = L at *
          have h30 := fun H => f30 p hI.v.pg (x.1 : Int) (x.2 : Int) H
          rw [hgp] at h30
          have hu1 : usedAns l x.1 1 = true := used1.2 (hI.apart x hxm x.1 ⟨Nat.le_refl _, by omega⟩)
          have hge := hI.v.get (a := x.1) (n := 1) (by omega) hu1
          have hsb : sub p x.1 1 = [x.1] := by
            have h1 : (sub p x.1 1).length = 1 := sub_len' hI.v.len (by omega)
            have h2 := sub_byte (q := p) (a := x.1) (n := 1) (t := 0) (by omega)
            rw [Nat.add_zero, hI.own x hxm] at h2
            obtain ⟨y, hy⟩ := List.length_eq_one_iff.1 h1
            rw [hy] at h2 ⊢
            rw [← h2]; rfl
          rw [hsb, Int.natCast_one] at hge
          have h24 := fun H => f24 p hI.v.pg (x.1 : Int) 1 H
          rw [hge] at h24
          have hl1 : lenK false (some (eB [x.1])) = some (.int .i64 1) := rfl
          have hia : iaddrK 1 (some (eB [x.1])) (some (.int .i64 0)) = some (.fptr [.int .u8 (x.1 : Int)]) := rfl
          have hld : ∀ (H : Heap) (a : AV), loadK false 1 H (some (.fptr [a])) = some a := fun _ _ => rfl
          have hux := wrapU (n := x.1) (by omega)
          obtain ⟨_, pp, hpp, hpa⟩ := hsl.get (t % all.length) (rPl x) (by rw [List.getElem?_map, hx]; rfl)
          have ca := hpa.agg (n := 2) rfl
          simp only [rPl] at ca
          have hA1 := hA.more [⟨0, true, 49, 2, [[.int .i64 (x.1 : Int), .int .i64 (x.2 : Int)]]⟩]
          obtain ⟨s1, s2, rv', X', e1, e2, e3, t1, t2, t3, hA2, Y, hXY⟩ := hA1.cut hrows (t % all.length) (by simpa using hkl) (by simp; omega)
          have hbx : X'[X.length]? = some ⟨0, true, 49, 2, [[.int .i64 (x.1 : Int), .int .i64 (x.2 : Int)]]⟩ := by rw [hXY, List.append_assoc]; simp
          have hmp : (all.map rPl).take (t % all.length) ++ (all.map rPl).drop (t % all.length + 1) = (all.take (t % all.length) ++ all.drop (t % all.length + 1)).map rPl := by simp [List.map_take, List.map_drop]
          rw [hmp] at hA2
          have hln : (all.take (t % all.length) ++ all.drop (t % all.length + 1)).length + 1 = all.length := by simp; omega
          generalize all.take (t % all.length) ++ all.drop (t % all.length + 1) = all' at *
          have hwk := wrapA1 (a := t % all.length) (by omega)
          have hwe := wrapA (a := x.2) (b := x.2 % 2) (by omega) (by omega)
          rw [show x.2 + x.2 % 2 = evn x.2 from rfl] at hwe
          have hng : IntKind.i64.wrap (0 - ((evn x.2 : Nat) : Int)) = -((evn x.2 : Nat) : Int) := by rw [wrap_i64 (by omega) (by omega)]; omega
          have hS2 := hI2.v.sum
          have hsu : IntKind.i64.wrap (((sumN l : Nat) : Int) - -((evn x.2 : Nat) : Int)) = ((sumN L : Nat) : Int) := by rw [wrap_i64 (by omega) (by omega)]; omega
          have h11q := fun H => f11 q hI2.v.pg H
          rw [hI2.v.places, hS2.1] at h11q
          have h13q := fun H => f13 q hI2.v.pg H
          rw [hI2.v.ans] at h13q
          clear hge hgp hsb hmp hXY hgo ga
          simp only [c7_l1, hE, hlen, hlS, hii, fS, hwn, hn0, hal, hwng, hal0, htm, hpp, ca, h24, hl1, hia, hld, hux, h30, e1, e2, e3, t1, t2, t3, hbx, hwk, hwe, tm2, hng, hsu, h11, h11q, h13q, hwi, asNat_cast, evX, Int.reduceEq, Int.reduceLT, Int.reduceLE, Nat.reduceMul, Nat.reduceMod, evW, fn_eq, evR, Nat.reduceAdd, Nat.reduceLT, Nat.reduceLeDiff, reduceIte, Nat.reduceEqDiff, reduceCtorEq, argEnv, eq_self, if_true, if_false]
          repeat' ((first | rw [guardK_cases] | rw [condK_bool] | rw [guardD_cases]); split <;> simp only [c7_l1, hE, hlen, hlS, hii, fS, hwn, hn0, hal, hwng, hal0, htm, hpp, ca, h24, hl1, hia, hld, hux, h30, e1, e2, e3, t1, t2, t3, hbx, hwk, hwe, tm2, hng, hsu, h11, h11q, h13q, hwi, asNat_cast, evX, Int.reduceEq, Int.reduceLT, Int.reduceLE, Nat.reduceMul, Nat.reduceMod, evW, evR, Nat.reduceAdd, Nat.reduceLT, Nat.reduceLeDiff, reduceIte, Nat.reduceEqDiff, reduceCtorEq, argEnv, eq_self, if_true, if_false, *])
          exact q_next ⟨i + 1, q, L, all', X', rv'⟩ (by rfl) rfl ⟨hI2, hA2, by simp only; omega, by simp only; omega⟩ (by simp only; omega) fun r h => h

        · have h0 : IntKind.i64.wrap (((sumN l : Nat) : Int) - 0) = ((sumN l : Nat) : Int) := by rw [wrap_i64 (by omega) (by omega)]; omega
          have h13 := fun H => f13 p hI.v.pg H
          rw [hI.v.ans] at h13
          simp only [c7_l1, hE, hlen, hlS, hii, fS, hld, hwn, hn0, hal, h11, h0, h13, hwi, evX, Int.reduceEq, Int.reduceLT, Int.reduceLE, Nat.reduceMul, Nat.reduceMod, evW, fn_eq, evR, Nat.reduceAdd, Nat.reduceLT, Nat.reduceLeDiff, reduceIte, Nat.reduceEqDiff, reduceCtorEq, argEnv, eq_self, if_true, if_false]
          repeat' ((first | rw [guardK_cases] | rw [condK_bool] | rw [guardD_cases]); split <;> simp only [c7_l1, hE, hlen, hlS, hii, fS, hld, hwn, hn0, hal, h11, h0, h13, hwi, evX, Int.reduceEq, Int.reduceLT, Int.reduceLE, Nat.reduceMul, Nat.reduceMod, evW, evR, Nat.reduceAdd, Nat.reduceLT, Nat.reduceLeDiff, reduceIte, Nat.reduceEqDiff, reduceCtorEq, argEnv, eq_self, if_true, if_false, *])
          exact q_next ⟨i + 1, p, l, all, X, rv⟩ (by rfl) rfl ⟨hI, hA, by simp only; omega, by simp only; omega⟩ (by simp only; omega) fun r h => h
    · have hii : ¬ (i : Int) < (s.length : Int) := by omega
      by_cases hal : (0 : Int) < (all.length : Int)
      · have hwng : IntKind.i64.wrap (0 - (-1)) = 1 := rfl
        have hwn1 : IntKind.i64.wrap 1 = 1 := rfl
        have htm : (1 : Int).tmod (all.length : Int) = ((1 % all.length : Nat) : Int) := rfl
        have hal0 : ¬ (all.length : Int) = 0 := by omega

        have hkl : 1 % all.length < all.length := Nat.mod_lt _ (by omega)
        obtain ⟨x, hx⟩ : ∃ x, all[1 % all.length]? = some x := ⟨_, List.getElem?_eq_getElem hkl⟩
        have hxm := List.mem_of_getElem? hx
        have hr := hI.rng x hxm
        have hev := @evn_le x.2
        have hgo := hI.used hxm
        have ga := givAt_of hI.v.ok hgo
        have hI2 := hI.give hx ga
        have hsm := give_sum ga
        have hgp : giveP p x.1 x.2 = (chainB (gQ p (giv l x.1 (x.1 + evn x.2)).2.2.1 x.1 (x.1 + evn x.2)) (gL (giv l x.1 (x.1 + evn x.2)).1 (giv l x.1 (x.1 + evn x.2)).2.1 (giv l x.1 (x.1 + evn x.2)).2.2.1 (giv l x.1 (x.1 + evn x.2)).2.2.2 x.1 (x.1 + evn x.2)), 0) := by
          unfold giveP
          rw [hI.v.ans]
          simp only [Int.toNat_natCast]
          rw [if_neg (by simp), if_neg (by rw [hgo]; simp)]
          rfl
        generalize chainB (gQ p (giv l x.1 (x.1 + evn x.2)).2.2.1 x.1 (x.1 + evn x.2)) (gL (giv l x.1 (x.1 + evn x.2)).1 (giv l x.1 (x.1 + evn x.2)).2.1 (giv l x.1 (x.1 + evn x.2)).2.2.1 (giv l x.1 (x.1 + evn x.2)).2.2.2 x.1 (x.1 + evn x.2)) = q at *
        generalize gL (giv l x.1 (x.1 + evn x.2)).1 (giv l x.1 (x.1 + evn x.2)).2.1 (giv l x.1 (x.1 + evn x.2)).2.2.1 (giv l x.1 (x.1 + evn x.2)).2.2.2 x.1 (x.1 + evn x.2) = L at *
        have h30 := fun H => f30 p hI.v.pg (x.1 : Int) (x.2 : Int) H
        rw [hgp] at h30
        have hu1 : usedAns l x.1 1 = true := used1.2 (hI.apart x hxm x.1 ⟨Nat.le_refl _, by omega⟩)
        have hge := hI.v.get (a := x.1) (n := 1) (by omega) hu1
        have hsb : sub p x.1 1 = [x.1] := by
          have h1 : (sub p x.1 1).length = 1 := sub_len' hI.v.len (by omega)
          have h2 := sub_byte (q := p) (a := x.1) (n := 1) (t := 0) (by omega)
          rw [Nat.add_zero, hI.own x hxm] at h2
          obtain ⟨y, hy⟩ := List.length_eq_one_iff.1 h1
          rw [hy] at h2 ⊢
          rw [← h2]; rfl
        rw [hsb, Int.natCast_one] at hge
        have h24 := fun H => f24 p hI.v.pg (x.1 : Int) 1 H
        rw [hge] at h24
        have hl1 : lenK false (some (eB [x.1])) = some (.int .i64 1) := rfl
        have hia : iaddrK 1 (some (eB [x.1])) (some (.int .i64 0)) = some (.fptr [.int .u8 (x.1 : Int)]) := rfl
        have hld : ∀ (H : Heap) (a : AV), loadK false 1 H (some (.fptr [a])) = some a := fun _ _ => rfl
        have hux := wrapU (n := x.1) (by omega)
        obtain ⟨_, pp, hpp, hpa⟩ := hsl.get (1 % all.length) (rPl x) (by rw [List.getElem?_map, hx]; rfl)
        have ca := hpa.agg (n := 2) rfl
        simp only [rPl] at ca
        have hA1 := hA.more [⟨0, true, 49, 2, [[.int .i64 (x.1 : Int), .int .i64 (x.2 : Int)]]⟩]
        obtain ⟨s1, s2, rv', X', e1, e2, e3, t1, t2, t3, hA2, Y, hXY⟩ := hA1.cut hrows (1 % all.length) (by simpa using hkl) (by simp; omega)
        have hbx : X'[X.length]? = some ⟨0, true, 49, 2, [[.int .i64 (x.1 : Int), .int .i64 (x.2 : Int)]]⟩ := by rw [hXY, List.append_assoc]; simp
        have hmp : (all.map rPl).take (1 % all.length) ++ (all.map rPl).drop (1 % all.length + 1) = (all.take (1 % all.length) ++ all.drop (1 % all.length + 1)).map rPl := by simp [List.map_take, List.map_drop]
        rw [hmp] at hA2
        have hln : (all.take (1 % all.length) ++ all.drop (1 % all.length + 1)).length + 1 = all.length := by simp; omega
        generalize all.take (1 % all.length) ++ all.drop (1 % all.length + 1) = all' at *
        have hwk := wrapA1 (a := 1 % all.length) (by omega)
        have hwe := wrapA (a := x.2) (b := x.2 % 2) (by omega) (by omega)
        rw [show x.2 + x.2 % 2 = evn x.2 from rfl] at hwe
        have hng : IntKind.i64.wrap (0 - ((evn x.2 : Nat) : Int)) = -((evn x.2 : Nat) : Int) := by rw [wrap_i64 (by omega) (by omega)]; omega
        have hS2 := hI2.v.sum
        have hsu : IntKind.i64.wrap (((sumN l : Nat) : Int) - -((evn x.2 : Nat) : Int)) = ((sumN L : Nat) : Int) := by rw [wrap_i64 (by omega) (by omega)]; omega
        have h11q := fun H => f11 q hI2.v.pg H
        rw [hI2.v.places, hS2.1] at h11q
        have h13q := fun H => f13 q hI2.v.pg H
        rw [hI2.v.ans] at h13q
        clear hge hgp hsb hmp hXY hgo ga
        simp only [c7_l1, hE, hlen, hlS, hii, hal, hwng, hwn1, hal0, htm, hpp, ca, h24, hl1, hia, hld, hux, h30, e1, e2, e3, t1, t2, t3, hbx, hwk, hwe, tm2, hng, hsu, h11, h11q, h13q, hwi, asNat_cast, evX, Int.reduceEq, Int.reduceLT, Int.reduceLE, Nat.reduceMul, Nat.reduceMod, evW, fn_eq, evR, Nat.reduceAdd, Nat.reduceLT, Nat.reduceLeDiff, reduceIte, Nat.reduceEqDiff, reduceCtorEq, argEnv, eq_self, if_true, if_false]
        repeat' ((first | rw [guardK_cases] | rw [condK_bool] | rw [guardD_cases]); split <;> simp only [c7_l1, hE, hlen, hlS, hii, hal, hwng, hwn1, hal0, htm, hpp, ca, h24, hl1, hia, hld, hux, h30, e1, e2, e3, t1, t2, t3, hbx, hwk, hwe, tm2, hng, hsu, h11, h11q, h13q, hwi, asNat_cast, evX, Int.reduceEq, Int.reduceLT, Int.reduceLE, Nat.reduceMul, Nat.reduceMod, evW, evR, Nat.reduceAdd, Nat.reduceLT, Nat.reduceLeDiff, reduceIte, Nat.reduceEqDiff, reduceCtorEq, argEnv, eq_self, if_true, if_false, *])
        exact q_next ⟨i + 1, q, L, all', X', rv'⟩ (by rfl) rfl ⟨hI2, hA2, by simp only; omega, by simp only; omega⟩ (by simp only; omega) fun r h => h

      · have he : all = [] := all_len (by omega)
        have hpf : p = fmt := by
          have hI0 := hI
          rw [he] at hI0
          exact hI0.last
        subst hpf
        clear he
        simp only [c7_l1, hE, hlen, hlS, hii, hal, evX, Int.reduceEq, Int.reduceLT, Int.reduceLE, Nat.reduceMul, Nat.reduceMod, evW, fn_eq, evR, Nat.reduceAdd, Nat.reduceLT, Nat.reduceLeDiff, reduceIte, Nat.reduceEqDiff, reduceCtorEq, argEnv, eq_self, if_true, if_false]
        repeat' ((first | rw [guardK_cases] | rw [condK_bool] | rw [guardD_cases]); split <;> simp only [c7_l1, hE, hlen, hlS, hii, hal, evX, Int.reduceEq, Int.reduceLT, Int.reduceLE, Nat.reduceMul, Nat.reduceMod, evW, evR, Nat.reduceAdd, Nat.reduceLT, Nat.reduceLeDiff, reduceIte, Nat.reduceEqDiff, reduceCtorEq, argEnv, eq_self, if_true, if_false, *])
        exact q_exit ⟨_, X, rfl, by rfl⟩
theorem f7 (s : List Int) (hs : ∀ n ∈ s, -128 ≤ n ∧ n ≤ 127) : ∃ H', evFn (evC cprog) itLim c7 [eS s] [] = some (.bool true, H') := by
  have hlS : lenK false (some (eS s)) = some (.int .i64 (s.length : Int)) := by simp [eS, lenK, evLen]
  by_cases h60 : (60 : Int) < (s.length : Int)
  · simp only [c7, hlS, h60, f8, evX, Int.reduceEq, Int.reduceLT, Int.reduceLE, Nat.reduceMul, Nat.reduceMod, evW, fn_eq, evR, Nat.reduceAdd, Nat.reduceLT, Nat.reduceLeDiff, reduceIte, Nat.reduceEqDiff, reduceCtorEq, argEnv, eq_self, if_true, if_false]
    repeat' ((first | rw [guardK_cases] | rw [condK_bool] | rw [guardD_cases]); split <;> simp only [c7, hlS, h60, f8, evX, Int.reduceEq, Int.reduceLT, Int.reduceLE, Nat.reduceMul, Nat.reduceMod, evW, evR, Nat.reduceAdd, Nat.reduceLT, Nat.reduceLeDiff, reduceIte, Nat.reduceEqDiff, reduceCtorEq, argEnv, eq_self, if_true, if_false, *])
    all_goals exact ⟨_, rfl⟩
  · have hlp := l7_1 s hs (by omega)
    simp only [c7, hlS, h60, f20, evX, Int.reduceEq, Int.reduceLT, Int.reduceLE, Nat.reduceMul, Nat.reduceMod, evW, fn_eq, evR, Nat.reduceAdd, Nat.reduceLT, Nat.reduceLeDiff, reduceIte, Nat.reduceEqDiff, reduceCtorEq, argEnv, eq_self, if_true, if_false]
    repeat' ((first | rw [guardK_cases] | rw [condK_bool] | rw [guardD_cases]); split <;> simp only [c7, hlS, h60, f20, evX, Int.reduceEq, Int.reduceLT, Int.reduceLE, Nat.reduceMul, Nat.reduceMod, evW, evR, Nat.reduceAdd, Nat.reduceLT, Nat.reduceLeDiff, reduceIte, Nat.reduceEqDiff, reduceCtorEq, argEnv, eq_self, if_true, if_false, *])
    generalize hz : itLim _ _ = z
    obtain ⟨T, X, rfl, hT⟩ := hlp _ (by rfl) rfl z hz
    clear hz hlp
    simp only [hT, f20, f8, b2s_B, beq_self_eq_true, evX, Int.reduceEq, Int.reduceLT, Int.reduceLE, Nat.reduceMul, Nat.reduceMod, evW, fn_eq, evR, Nat.reduceAdd, Nat.reduceLT, Nat.reduceLeDiff, reduceIte, Nat.reduceEqDiff, reduceCtorEq, argEnv, eq_self, if_true, if_false]
    repeat' ((first | rw [guardK_cases] | rw [condK_bool] | rw [guardD_cases]); split <;> simp only [hT, f20, f8, b2s_B, beq_self_eq_true, evX, Int.reduceEq, Int.reduceLT, Int.reduceLE, Nat.reduceMul, Nat.reduceMod, evW, evR, Nat.reduceAdd, Nat.reduceLT, Nat.reduceLeDiff, reduceIte, Nat.reduceEqDiff, reduceCtorEq, argEnv, eq_self, if_true, if_false, *])
    all_goals exact ⟨_, rfl⟩
end Go.Proofs.Ythgcnlmmgilhjaa.Code

/- The law PageMoves. -/
set_option linter.unusedSimpArgs false
set_option linter.unusedVariables false
namespace Go.Proofs.Ythgcnlmmgilhjaa.Pure
open Go.Proofs.Ythgcnlmmgilhjaa.Ev Go.Proofs.Ythgcnlmmgilhjaa.Code Go.RowKit
theorem open_i8 {r : List AV} (h : HasL [.int .i8] r) : ∃ n : Int, r = [.int .i8 n] ∧ (-128 ≤ n ∧ n ≤ 127) := by
  simp only [HasL, Has] at h
  obtain ⟨x, xs, rfl, ⟨n, rfl, hn⟩, rfl⟩ := h
  refine ⟨n, rfl, ?_⟩
  have e1 : IntKind.i8.min = -128 := rfl
  have e2 : IntKind.i8.max = 127 := rfl
  simp [Lit.wf, e1, e2] at hn
  omega
theorem PageMoves (a0 : AV) (t0 : ArgTy false [.sl [.int .i8]] a0) : ∃ H', evC cprog 7 [a0] [] = some (.bool true, H') := by
  have h : HasL [.sl [.int .i8]] [a0] := t0
  simp only [HasL.eq_2, HasL.eq_1, Has] at h
  obtain ⟨x, xs, he, ⟨l, rfl, hl, hr⟩, rfl⟩ := h
  cases he
  obtain ⟨s, rfl, hs⟩ := typed (P := HasL [.int .i8]) (fun r h => open_i8 h) l (fun r h => by simpa only [HasL.eq_2, HasL.eq_1, Has] using hr r h)
  rw [evC_fn at7]
  exact f7 s hs
end Go.Proofs.Ythgcnlmmgilhjaa.Pure

