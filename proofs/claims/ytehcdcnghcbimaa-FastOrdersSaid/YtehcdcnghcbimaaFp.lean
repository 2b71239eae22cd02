/- The document's Stands; keys that rise stand apart. -/
import Derived.Test.YtehcdcnghcbimaaFo
set_option linter.unusedSimpArgs false
set_option linter.unusedVariables false
namespace Go.Proofs.Ytehcdcnghcbimaa.Code
open Go.Proofs.Ytehcdcnghcbimaa.Ev

theorem less_trans : ∀ x y z : List UInt8, Op.bytesLess x y = true → Op.bytesLess y z = true → Op.bytesLess x z = true
  | [], [], _, h, _ => by simp [Op.bytesLess] at h
  | [], _ :: _, [], _, h => by simp [Op.bytesLess] at h
  | [], _ :: _, _ :: _, _, _ => by simp [Op.bytesLess]
  | _ :: _, [], _, h, _ => by simp [Op.bytesLess] at h
  | _ :: _, _ :: _, [], _, h => by simp [Op.bytesLess] at h
  | a :: x, b :: y, c :: z, h1, h2 => by
    simp only [Op.bytesLess, Bool.or_eq_true, decide_eq_true_eq, Bool.and_eq_true, beq_iff_eq] at h1 h2 ⊢
    rcases h1 with h1 | ⟨rfl, h1⟩
    · rcases h2 with h2 | ⟨rfl, h2⟩
      · exact .inl (UInt8.lt_trans h1 h2)
      · exact .inl h1
    · rcases h2 with h2 | ⟨rfl, h2⟩
      · exact .inl h2
      · exact .inr ⟨rfl, less_trans x y z h1 h2⟩
theorem bLt_trans {s t u : ByteArray} (h1 : bLt s t = true) (h2 : bLt t u = true) : bLt s u = true := less_trans _ _ _ h1 h2
theorem asked_apart {F : Int} {rows : List Row} {us : List (List Fld)} (h : asked (F, rows) us = 0) : Apart rows := by
  have hv : valid (F, rows) = true := by
    cases hv : valid (F, rows) with
    | true => rfl
    | false => simp [asked, hv] at h
  simp only [valid, Bool.and_eq_true, decide_eq_true_eq] at hv
  have h4 := tell_true.1 hv.2
  have step : ∀ (i : Nat) (r r' : Row), rows[i]? = some r → rows[i + 1]? = some r' → bLt r.1 r'.1 = true := fun i r r' hr hr' => by
    have := h4 (i + 1) r' hr'
    simp only [rowOk, Bool.and_eq_true, Bool.or_eq_true, decide_eq_true_eq] at this
    rcases this.1.1.2 with h | h
    · omega
    · simpa [keyAt, hr] using h
  have far : ∀ (d i : Nat) (r r' : Row), rows[i]? = some r → rows[i + 1 + d]? = some r' → bLt r.1 r'.1 = true := by
    intro d
    induction d with
    | zero => exact fun i r r' => step i r r'
    | succ d ih =>
      intro i r r' hr hr'
      have hlt := (List.getElem?_eq_some_iff.1 hr').1
      obtain ⟨m, hm⟩ : ∃ m, rows[i + 1 + d]? = some m := ⟨_, List.getElem?_eq_getElem (by omega)⟩
      exact bLt_trans (ih i r m hr hm) (step (i + 1 + d) m r' hm (by rw [show i + 1 + d + 1 = i + 1 + (d + 1) by omega]; exact hr'))
  intro i j r r' hr hr' he
  rcases Nat.lt_trichotomy i j with hij | hij | hij
  · have := far (j - i - 1) i r r' hr (by rw [show i + 1 + (j - i - 1) = j by omega]; exact hr')
    rw [he, bLt_irrefl] at this; cases this
  · exact hij
  · have := far (i - j - 1) j r' r hr' (by rw [show j + 1 + (i - j - 1) = i by omega]; exact hr)
    rw [he, bLt_irrefl] at this; cases this
theorem f13 (F : Int) (rows : List Row) (hl : rows.length < 9223372036854775807) (hvl : ∀ r ∈ rows, r.2.length < 9223372036854775807) (l : List Fld) (hu : l.length < 9223372036854775807) (H : Heap) :
    cal (evC cprog) false 13 [.agg [.int .i64 F, .lst (rows.map rRow)], eUnit l] H = some (.tup [.int .i64 (stands F rows l).1, .int .i64 (stands F rows l).2], H) := by
  have h45 := fun X => f45 F rows hl hvl _ (H ++ X) (.lst _ rows) l hu
  rw [cal_of at13]
  by_cases ha : asked (F, rows) [l] = 0
  · obtain ⟨hG, hv, hl'⟩ := asked_good ha
    obtain ⟨rv, N, H', h46, hO, _⟩ := f46 F rows hl' hv hG (asked_apart ha) l hu (H ++ [⟨0, true, 24, 2, [[.int .i64 F, .lst (rows.map rRow)]]⟩])
    obtain ⟨G, rfl⟩ := hO.split
    simp only [ha] at h45
    simp only [List.append_assoc, List.cons_append, List.nil_append] at h46
    have hs : stands F rows l = ((runUnit F rows l).1, 0) := by simp [stands, ha]
    rw [hs]
    simp only [c13, h45, h46, fn_eq, evR, Nat.reduceAdd, Nat.reduceLT, Nat.reduceLeDiff, reduceIte, Nat.reduceEqDiff, reduceCtorEq, argEnv, eq_self, if_true, if_false]
    repeat' (first | (rw [guardK_cases]; split <;> simp only [c13, h45, h46, evR, Nat.reduceAdd, Nat.reduceLT, Nat.reduceLeDiff, reduceIte, Nat.reduceEqDiff, reduceCtorEq, argEnv, eq_self, if_true, if_false, *]) | (rw [condK_bool]; split <;> simp only [c13, h45, h46, evR, Nat.reduceAdd, Nat.reduceLT, Nat.reduceLeDiff, reduceIte, Nat.reduceEqDiff, reduceCtorEq, argEnv, eq_self, if_true, if_false, *]))
  · have hs : stands F rows l = (0, asked (F, rows) [l]) := by simp [stands, ha]
    rw [hs]
    simp only [c13, h45, ha, fn_eq, evR, Nat.reduceAdd, Nat.reduceLT, Nat.reduceLeDiff, reduceIte, Nat.reduceEqDiff, reduceCtorEq, argEnv, eq_self, if_true, if_false]
    repeat' (first | (rw [guardK_cases]; split <;> simp only [c13, h45, ha, evR, Nat.reduceAdd, Nat.reduceLT, Nat.reduceLeDiff, reduceIte, Nat.reduceEqDiff, reduceCtorEq, argEnv, eq_self, if_true, if_false, *]) | (rw [condK_bool]; split <;> simp only [c13, h45, ha, evR, Nat.reduceAdd, Nat.reduceLT, Nat.reduceLeDiff, reduceIte, Nat.reduceEqDiff, reduceCtorEq, argEnv, eq_self, if_true, if_false, *]))
end Go.Proofs.Ytehcdcnghcbimaa.Code
