/- fast: one call on a table. -/
import Derived.Test.YtehcdcnghcbimaaFe
set_option linter.unusedSimpArgs false
set_option linter.unusedVariables false
namespace Go.Proofs.Ytehcdcnghcbimaa.Code
open Go.Proofs.Ytehcdcnghcbimaa.Ev

def sVe : ByteArray := ⟨#[86, 61]⟩
def sVl : ByteArray := ⟨#[86, 60]⟩
def sVg : ByteArray := ⟨#[86, 62]⟩
def sPl : ByteArray := ⟨#[43]⟩
def sMi : ByteArray := ⟨#[45]⟩
def sEq : ByteArray := ⟨#[61]⟩
def sGE : ByteArray := ⟨#[71, 69]⟩
def sFI : ByteArray := ⟨#[70, 73]⟩
def sFV : ByteArray := ⟨#[70, 86]⟩
def sFO : ByteArray := ⟨#[70, 79]⟩
def sOk : ByteArray := ⟨#[32, 32]⟩
def holds (c : Fld) (n : Int) : Bool := if c.op = sVe then decide (n = c.n) else if c.op = sVl then decide (n < c.n) else if c.op = sVg then decide (c.n < n) else true
def next (c : Fld) (n : Int) : Int := if c.op = sVe then n else if c.op = sVl then n else if c.op = sVg then n else if c.op = sPl then n + c.n else if c.op = sMi then n - c.n else if c.op = sEq then c.n else n
def valAt (rows : List Row) (i f : Nat) : Int := match rows[i]? with
  | some r => (r.2[f]?).getD 0
  | none => 0
def putAt (rows : List Row) (i f : Nat) (n : Int) : List Row := match rows[i]? with
  | some r => rows.set i (r.1, r.2.set f n)
  | none => rows
def doOne (F : Int) (rows : List Row) (c : Fld) : ByteArray × List Row :=
  if idxOf (fun (r : Row) => decide (r.1 = c.key)) rows < 0 then (sGE, rows)
  else if c.field < 0 ∨ F ≤ c.field ∨ isCall c = false then (sFI, rows)
  else if holds c (valAt rows (idxOf (fun (r : Row) => decide (r.1 = c.key)) rows).toNat c.field.toNat) = false then (sFV, rows)
  else if isAmount (next c (valAt rows (idxOf (fun (r : Row) => decide (r.1 = c.key)) rows).toNat c.field.toNat)) = false then (sFO, rows)
  else (sOk, putAt rows (idxOf (fun (r : Row) => decide (r.1 = c.key)) rows).toNat c.field.toNat (next c (valAt rows (idxOf (fun (r : Row) => decide (r.1 = c.key)) rows).toNat c.field.toNat)))

theorem OwnL.set {B N b v : Nat} {vb : List (Nat × Nat)} {H : Heap} {rows : List Row} (h : OwnL B N b v vb H rows) {i : Nat} {r : Row} {w : Nat × Nat} (hr : rows[i]? = some r) (hw : vb[i]? = some w) {f : Nat} (hf : f < r.2.length) (n : Int)
    {k : Blk} (hk : curBlk H w.1 w.2 1 = some k) (hN : N ≤ H.length) :
    OwnL B N b v vb (H.set w.1 { k with els := k.els.set f [.int .i64 n] }) (rows.set i (r.1, r.2.set f n)) := by
  obtain ⟨h1, h2, h3, k0, h4, h5⟩ := h.vals i r w hr hw
  rw [hk] at h4; cases h4
  have hil : i < rows.length := (List.getElem?_eq_some_iff.1 hr).1
  have hget : ∀ (j : Nat) (r' : Row), (rows.set i (r.1, r.2.set f n))[j]? = some r' → (j = i ∧ r' = (r.1, r.2.set f n)) ∨ (j ≠ i ∧ rows[j]? = some r') := fun j r' hj => by
    by_cases hji : j = i
    · subst hji
      rw [List.getElem?_set_self hil] at hj
      cases hj; exact .inl ⟨rfl, rfl⟩
    · rw [List.getElem?_set_ne (fun e => hji e.symm)] at hj
      exact .inr ⟨hji, hj⟩
  have hne : ∀ g, g ≠ w.1 → (H.set w.1 { k with els := k.els.set f [.int .i64 n] })[g]? = H[g]? := fun g hg => List.getElem?_set_ne (fun e => hg e.symm)
  have hself : curBlk (H.set w.1 { k with els := k.els.set f [.int .i64 n] }) w.1 w.2 1 = some { k with els := k.els.set f [.int .i64 n] } := by
    unfold curBlk at hk ⊢
    rw [List.getElem?_set_self (by omega)]
    cases hh : H[w.1]? with
    | none => simp [hh] at hk
    | some k' =>
      rw [hh] at hk
      simp only at hk ⊢
      split at hk
      · rename_i hc; cases hk; rw [if_pos hc]
      · cases hk
  obtain ⟨b1, b2, kb, b3, b4⟩ := h.blk
  refine ⟨by rw [List.length_set]; exact h.len, ⟨b1, b2, kb, by rw [curBlk_of (hne b (fun e => h3 e.symm))]; exact b3, fun j r' w' hj hw' => ?_⟩, fun j r' w' hj hw' => ?_, h.inj⟩
  · rcases hget j r' hj with ⟨rfl, rfl⟩ | ⟨_, hj'⟩
    · rw [hw] at hw'; cases hw'
      rw [b4 j r w hr hw]; simp
    · exact b4 j r' w' hj' hw'
  · rcases hget j r' hj with ⟨rfl, rfl⟩ | ⟨hji, hj'⟩
    · rw [hw] at hw'; cases hw'
      refine ⟨h1, h2, h3, _, hself, fun a m ha => ?_⟩
      simp only at ha ⊢
      by_cases haf : a = f
      · subst haf
        rw [List.getElem?_set_self (by simpa using hf)] at ha
        cases ha
        obtain ⟨m0, hm0⟩ : ∃ m, r.2[a]? = some m := ⟨_, List.getElem?_eq_getElem hf⟩
        rw [List.getElem?_set_self (List.getElem?_eq_some_iff.1 (h5 a m0 hm0)).1]
      · rw [List.getElem?_set_ne (fun e => haf e.symm)] at ha ⊢
        exact h5 a m ha
    · obtain ⟨c1, c2, c3, kc, c4, c5⟩ := h.vals j r' w' hj' hw'
      exact ⟨c1, c2, c3, kc, by rw [curBlk_of (hne w'.1 (h.inj j i w' w hw' hw hji))]; exact c4, c5⟩
/-- what lies above stays -/
def Keep (N : Nat) (H H' : Heap) : Prop := H.length ≤ H'.length ∧ ∀ g, N ≤ g → g < H.length → H'[g]? = H[g]?
theorem Keep.refl (N : Nat) (H : Heap) : Keep N H H := ⟨Nat.le_refl _, fun _ _ _ => rfl⟩
theorem Keep.app (N : Nat) (H X : Heap) : Keep N H (H ++ X) := ⟨by simp, fun g _ hg => List.getElem?_append_left hg⟩
theorem Keep.set {N : Nat} {H H' : Heap} (h : Keep N H H') {g : Nat} (hg : g < N) (k : Blk) : Keep N H (H'.set g k) :=
  ⟨by rw [List.length_set]; exact h.1, fun j hj hl => by rw [List.getElem?_set_ne (by omega)]; exact h.2 j hj hl⟩
theorem Keep.trans {N : Nat} {H H' H'' : Heap} (h : Keep N H H') (h' : Keep N H' H'') : Keep N H H'' :=
  ⟨Nat.le_trans h.1 h'.1, fun g hg hl => by rw [h'.2 g hg (by have := h.1; omega), h.2 g hg hl]⟩
theorem isCall_op {c : Fld} (h : isCall c = true) : c.op = sVe ∨ c.op = sVl ∨ c.op = sVg ∨ c.op = sPl ∨ c.op = sMi ∨ c.op = sEq := by
  simp only [isCall, isOp, ops, Bool.and_eq_true, List.any_cons, List.any_nil, Bool.or_eq_true, decide_eq_true_eq, Bool.or_false] at h
  exact h.1
set_option maxHeartbeats 4000000 in
theorem f56 {H0 : Heap} {N : Nat} {rv : AV} {rows : List Row} {H : Heap} (hO : Own H0 N rv rows H) {F : Int} (hl : rows.length < 9223372036854775807) (hF : ∀ r ∈ rows, (r.2.length : Int) = F) (hA : ∀ r ∈ rows, ∀ n ∈ r.2, isAmount n = true) (c : Fld) :
    ∃ H', cal (evC cprog) false 56 [.agg [.int .i64 F, rv], .agg (rFld c)] H = some (.str (doOne F rows c).1, H') ∧ Own H0 N rv (doOne F rows c).2 H' ∧ Keep N H H' := by
  have h73 : ∀ X, cal (evC cprog) false 73 [rv, .fn 74 [.ptr (H.length + 1) 0 4 0 0]] (H ++ (⟨0, true, 24, 2, [[.int .i64 F, rv]]⟩ :: ⟨0, true, 37, 4, [rFld c]⟩ :: X)) = some (.int .i64 (idxOf (fun (r : Row) => decide (r.1 = c.key)) rows), H ++ (⟨0, true, 24, 2, [[.int .i64 F, rv]]⟩ :: ⟨0, true, 37, 4, [rFld c]⟩ :: X)) := fun X =>
    f73 rows rv c (H.length + 1) _ hl (hO.app _).rowsAt fun Y => by simp only [evR, Nat.reduceAdd, Nat.reduceLT, Nat.reduceLeDiff, reduceIte, Nat.reduceEqDiff, reduceCtorEq, argEnv, eq_self, if_true, if_false]
  have h54 := f54 c
  simp only [rFld] at h73 h54
  rw [cal_of at56]
  by_cases h1 : idxOf (fun (r : Row) => decide (r.1 = c.key)) rows < 0
  · simp only [c56, rFld, h73, h1, AV.scal, fn_eq, evR, Nat.reduceAdd, Nat.reduceLT, Nat.reduceLeDiff, reduceIte, Nat.reduceEqDiff, reduceCtorEq, argEnv, eq_self, if_true, if_false]
    repeat' (first | (rw [guardK_cases]; split <;> simp only [c56, rFld, h73, h1, AV.scal, evR, Nat.reduceAdd, Nat.reduceLT, Nat.reduceLeDiff, reduceIte, Nat.reduceEqDiff, reduceCtorEq, argEnv, eq_self, if_true, if_false, *]) | (rw [condK_bool]; split <;> simp only [c56, rFld, h73, h1, AV.scal, evR, Nat.reduceAdd, Nat.reduceLT, Nat.reduceLeDiff, reduceIte, Nat.reduceEqDiff, reduceCtorEq, argEnv, eq_self, if_true, if_false, *]))
    exact ⟨H, by simp only [doOne, h1, if_true]; rfl, by simp only [doOne, h1, if_true]; exact hO, .refl _ _⟩
  by_cases h2 : c.field < 0 ∨ F ≤ c.field ∨ isCall c = false
  · have hd : doOne F rows c = (sFI, rows) := by simp only [doOne, h1, h2, if_true, if_false]
    rw [hd]
    refine ⟨H, ?_, hO, .refl _ _⟩
    simp only [c56, rFld, h73, h54, h1, AV.scal, fn_eq, evR, Nat.reduceAdd, Nat.reduceLT, Nat.reduceLeDiff, reduceIte, Nat.reduceEqDiff, reduceCtorEq, argEnv, eq_self, if_true, if_false]
    repeat' (first | (rw [guardK_cases]; split <;> simp only [c56, rFld, h73, h54, h1, AV.scal, evR, Nat.reduceAdd, Nat.reduceLT, Nat.reduceLeDiff, reduceIte, Nat.reduceEqDiff, reduceCtorEq, argEnv, eq_self, if_true, if_false, *]) | (rw [condK_bool]; split <;> simp only [c56, rFld, h73, h54, h1, AV.scal, evR, Nat.reduceAdd, Nat.reduceLT, Nat.reduceLeDiff, reduceIte, Nat.reduceEqDiff, reduceCtorEq, argEnv, eq_self, if_true, if_false, *]))
    all_goals first | rfl | (exfalso; simp_all; done) | (exfalso; simp_all; omega)
  obtain ⟨i, hi⟩ : ∃ i, rows.findIdx? (fun (r : Row) => decide (r.1 = c.key)) = some i := by
    cases h : rows.findIdx? (fun (r : Row) => decide (r.1 = c.key)) with
    | none => exact absurd (by unfold idxOf; rw [h]; decide) h1
    | some i => exact ⟨i, rfl⟩
  have hidx : idxOf (fun (r : Row) => decide (r.1 = c.key)) rows = (i : Int) := by unfold idxOf; rw [hi]
  have hil : i < rows.length := (List.findIdx?_eq_some_iff_getElem.1 hi).1
  obtain ⟨r, hr⟩ : ∃ r, rows[i]? = some r := ⟨_, List.getElem?_eq_getElem hil⟩
  have hrm := List.mem_of_getElem? hr
  have hcall : isCall c = true := by cases h : isCall c <;> simp_all
  obtain ⟨f, hf⟩ : ∃ f : Nat, c.field = f := ⟨c.field.toNat, by omega⟩
  have hfl : f < r.2.length := by have := hF r hrm; omega
  obtain ⟨n, hn⟩ : ∃ n, r.2[f]? = some n := ⟨_, List.getElem?_eq_getElem hfl⟩
  have hnA := hA r hrm n (List.mem_of_getElem? hn)
  have hcA : isAmount c.n = true := by simp only [isCall, Bool.and_eq_true] at hcall; exact hcall.2
  have hadd : IntKind.i64.wrap (n + c.n) = n + c.n := by simp [isAmount] at hnA hcA; exact wrap_i64 (by omega) (by omega)
  have hsub : IntKind.i64.wrap (n - c.n) = n - c.n := by simp [isAmount] at hnA hcA; exact wrap_i64 (by omega) (by omega)
  rcases hO.tab with ⟨rfl, _⟩ | ⟨b, v, vb, rfl, hL⟩
  · simp at hil
  obtain ⟨w, hw⟩ : ∃ w, vb[i]? = some w := ⟨_, List.getElem?_eq_getElem (by have := hL.len; omega)⟩
  obtain ⟨_, _, kb, hkb, hrow⟩ := hL.blk
  obtain ⟨_, _, _, kw, hkw, hval⟩ := hL.vals i r w hr hw
  have hkbx : ∀ X, blkK (H ++ X)[b]? v 2 = some kb := fun X => curBlk_app hkb
  have hkwx : ∀ X, blkK (H ++ X)[w.1]? w.2 1 = some kw := fun X => curBlk_app hkw
  simp only [hidx, hf] at h73 h54
  rw [hidx] at h1
  rw [hf] at h2
  have hre := hrow i r w hr hw
  have hne := hval f n hn
  have hd : doOne F rows c = if holds c n = false then (sFV, rows) else if isAmount (next c n) = false then (sFO, rows) else (sOk, rows.set i (r.1, r.2.set f (next c n))) := by
    have e1 : valAt rows i f = n := by simp [valAt, hr, hn]
    simp only [doOne, h1, h2, if_false, hidx, Int.toNat_natCast, hf, e1, putAt, hr]
  have hset := fun m X => (hL.move (H' := H ++ X) fun g _ hg => List.getElem?_append_left (by have := hO.le; omega)).set hr hw hfl m (curBlk_app (G := X) hkw) (by have := hO.le; simp; omega)
  have hOwn : ∀ m X, Own H0 N (.ref b v 2 0 rows.length) (rows.set i (r.1, r.2.set f m)) ((H ++ X).set w.1 { kw with els := kw.els.set f [.int .i64 m] }) := fun m X => by
    have hp := (hO.app X).pre
    have hle := (hO.app X).le
    obtain ⟨k1, k2, _⟩ := hL.vals i r w hr hw
    refine ⟨?_, by rw [List.length_set]; exact hle, .inr ⟨b, v, vb, by rw [List.length_set], hset m X⟩⟩
    rw [List.take_set_of_le (by omega)]
    exact hp
  suffices h : ∃ H1, evFn (evC cprog) itLim c56 [.agg [.int .i64 F, .ref b v 2 0 rows.length], .agg (rFld c)] H = some (.str (doOne F rows c).1, H1) ∧ Own H0 N (.ref b v 2 0 rows.length) (doOne F rows c).2 H1 ∧ Keep N H H1 by
    obtain ⟨H1, h3, h4, h5⟩ := h
    rw [h3, calK_f]
    rcases gc_or H (.str (doOne F rows c).1) H1 with h | ⟨h, ht⟩
    · exact ⟨H1, by rw [h], h4, h5⟩
    · exact ⟨H, by rw [h], h4.trunc hO.le.2 ht, .refl _ _⟩
  rw [hd]
  have hst : ∀ (m : Int) (X : Heap), holds c n = true → next c n = m → isAmount m = true →
      ∃ H1, some (AV.str sOk, (H ++ X).set w.1 { kw with els := kw.els.set f [.int .i64 m] }) = some (AV.str (if holds c n = false then (sFV, rows) else if isAmount (next c n) = false then (sFO, rows) else (sOk, rows.set i (r.1, r.2.set f (next c n)))).1, H1) ∧
        Own H0 N (.ref b v 2 0 rows.length) (if holds c n = false then (sFV, rows) else if isAmount (next c n) = false then (sFO, rows) else (sOk, rows.set i (r.1, r.2.set f (next c n)))).2 H1 ∧ Keep N H H1 := fun m X g1 g2 g3 => by
    subst g2
    simp only [g1, g3, Bool.true_eq_false, if_false]
    exact ⟨_, rfl, hOwn _ X, (Keep.app N H X).set (hL.vals i r w hr hw).2.1 _⟩
  have hio := isCall_op hcall
  have hf0 : ¬ (f : Int) < 0 := by omega
  have hfF : ¬ F ≤ (f : Int) := fun h => h2 (.inr (.inl h))
  simp only [c56, rFld, h73, h54, hidx, hf, h1, hf0, hfF, hcall, hil, hkbx, hkwx, hre, hne, hfl, f50, hadd, hsub, Int.toNat_natCast, AV.scal, fn_eq, evR, Nat.reduceAdd, Nat.reduceLT, Nat.reduceLeDiff, reduceIte, Nat.reduceEqDiff, reduceCtorEq, argEnv, eq_self, if_true, if_false]
  repeat' (first | (rw [guardK_cases]; split <;> simp only [c56, rFld, h73, h54, hidx, hf, h1, hf0, hfF, hcall, hil, hkbx, hkwx, hre, hne, hfl, f50, hadd, hsub, Int.toNat_natCast, AV.scal, evR, Nat.reduceAdd, Nat.reduceLT, Nat.reduceLeDiff, reduceIte, Nat.reduceEqDiff, reduceCtorEq, argEnv, eq_self, if_true, if_false, *]) | (rw [condK_bool]; split <;> simp only [c56, rFld, h73, h54, hidx, hf, h1, hf0, hfF, hcall, hil, hkbx, hkwx, hre, hne, hfl, f50, hadd, hsub, Int.toNat_natCast, AV.scal, evR, Nat.reduceAdd, Nat.reduceLT, Nat.reduceLeDiff, reduceIte, Nat.reduceEqDiff, reduceCtorEq, argEnv, eq_self, if_true, if_false, *]))
  all_goals first
    | (have hh : holds c n = false := by (simp_all [holds, sVe, sVl, sVg]; done)
       simp only [hh, if_true]; exact ⟨_, rfl, hO.app _, .app _ _ _⟩)
    | (have hh : holds c n = true := by (simp_all [holds, sVe, sVl, sVg]; done)
       have hm : isAmount (next c n) = false := by (simp_all [next, sVe, sVl, sVg, sPl, sMi, sEq]; done)
       simp only [hh, hm, if_true, if_false, Bool.true_eq_false]; exact ⟨_, rfl, hO.app _, .app _ _ _⟩)
    | exact hst _ _ (by simp_all [holds, sVe, sVl, sVg]; done) (by simp_all [next, sVe, sVl, sVg, sPl, sMi, sEq]; done) (by simp_all; done)
    | (exfalso; clear hst hOwn hset h73 h54; simp_all [sVe, sVl, sVg, sPl, sMi, sEq]; done)
end Go.Proofs.Ytehcdcnghcbimaa.Code
