/- Texts of ours, joined into one file; each begins with its own remark. -/
import Derived.Test.YtondenmkhfignaaEvZ
import Derived.Test.YtondenmkhfignaaEvY
import Derived.Test.YtondenmkhfignaaCodeB
import Derived.Test.YtondenmkhfignaaRptU
import Derived.Test.YtondenmkhfignaaLst
/- What a loop collects (generic). -/
set_option linter.unusedSimpArgs false
set_option linter.unusedVariables false
namespace Go.Proofs.Ytondenmkhfignaa.Code
open Go.Proofs.Ytondenmkhfignaa.Ev

/-- what is gathered, element by element -/
def gath {α β : Type} (g : Nat → α → List β) : Nat → List α → List β
  | _, [] => []
  | k, x :: l => g k x ++ gath g (k + 1) l
theorem gath_take {α β : Type} (g : Nat → α → List β) : ∀ (l : List α) (k i : Nat) (x : α), l[i]? = some x → gath g k (l.take (i + 1)) = gath g k (l.take i) ++ g (k + i) x
  | [], k, i, x, h => by simp at h
  | y :: l, k, 0, x, h => by
    simp at h; subst h
    simp [gath]
  | y :: l, k, i + 1, x, h => by
    rw [List.take_succ_cons, List.take_succ_cons, gath, gath, gath_take g l (k + 1) i x (by simpa using h), List.append_assoc, show k + 1 + i = k + (i + 1) by omega]
/-- a loop that gathers into a slice that grows -/
theorem gath_rule {α β : Type} (l : List α) (g : Nat → α → List β) (enc : β → List AV) (m : List Nat) (env : Nat → AV → Env) (H : Heap) (sz ty : Nat) (body : St → Option (CX × St)) (x0 : Nat) (mo : List Nat) (eo : AV → Env)
    (step : ∀ i x, l[i]? = some x → ∀ E X rv, keepEnv E m = env i rv → Out H.length sz ty X rv ((gath g 0 (l.take i)).map enc) →
      ∃ T X' rv', body (E, H ++ X) = some (.normal, T, H ++ X') ∧ keepEnv T m = env (i + 1) rv' ∧ Out H.length sz ty X' rv' ((gath g 0 (l.take i)).map enc ++ (g i x).map enc))
    (fin : ∀ E X rv, keepEnv E m = env l.length rv → ∃ T, body (E, H ++ X) = some (.exit x0, T, H ++ X) ∧ keepEnv T mo = eo rv)
    (st : St) (X0 : Heap) (rv0 : AV) (h0 : Out H.length sz ty X0 rv0 []) (hE : keepEnv st.1 m = env 0 rv0) (hH : st.2 = H ++ X0) (z : Option (CX × St)) (hz : itLim body st = z) :
    ∃ T X rv, z = some (.exit x0, T, H ++ X) ∧ keepEnv T mo = eo rv ∧ Out H.length sz ty X rv ((gath g 0 l).map enc) := by
  have L := loop_rule (σ := Nat × Heap × AV) (m := m) (env := fun s => env s.1 s.2.2) (hp := fun s => H ++ s.2.1)
    (P := fun _ r => ∃ T X rv, r = (.exit x0, T, H ++ X) ∧ keepEnv T mo = eo rv ∧ Out H.length sz ty X rv ((gath g 0 l).map enc))
    (mu := fun s => l.length - s.1) (I := fun s => s.1 ≤ l.length ∧ Out H.length sz ty s.2.1 s.2.2 ((gath g 0 (l.take s.1)).map enc)) body ?_ (0, X0, rv0) st ⟨by simp, by simpa [gath] using h0⟩ hE hH z hz
  · obtain ⟨_, rfl, T, X, rv, rfl, h⟩ := L
    exact ⟨T, X, rv, rfl, h⟩
  · intro ⟨i, X, rv⟩ ⟨hi, hO⟩ E hE
    simp only at hi hO hE ⊢
    by_cases hlt : i < l.length
    · obtain ⟨x, hx⟩ : ∃ x, l[i]? = some x := ⟨_, List.getElem?_eq_getElem hlt⟩
      obtain ⟨T, X', rv', h1, h2, h3⟩ := step i x hx E X rv hE hO
      rw [h1]
      refine q_next (i + 1, X', rv') h2 rfl ⟨by omega, ?_⟩ (by simp only; omega) fun r h => h
      simp only [gath_take g l 0 i x hx, Nat.zero_add, List.map_append]
      exact h3
    · have : i = l.length := by omega
      subst this
      obtain ⟨T, h1, h2⟩ := fin E X rv hE
      rw [h1]
      rw [List.take_of_length_le (Nat.le_refl _)] at hO
      exact q_exit ⟨_, _, _, rfl, h2, hO⟩
/-- the same behind what was gathered before -/
theorem gath_pre {α β : Type} (l : List α) (g : Nat → α → List β) (enc : β → List AV) (pre : List (List AV)) (m : List Nat) (env : Nat → AV → Env) (H : Heap) (sz ty : Nat) (body : St → Option (CX × St)) (x0 : Nat) (mo : List Nat) (eo : AV → Env)
    (step : ∀ i x, l[i]? = some x → ∀ E X rv, keepEnv E m = env i rv → Out H.length sz ty X rv (pre ++ (gath g 0 (l.take i)).map enc) →
      ∃ T X' rv', body (E, H ++ X) = some (.normal, T, H ++ X') ∧ keepEnv T m = env (i + 1) rv' ∧ Out H.length sz ty X' rv' (pre ++ (gath g 0 (l.take i)).map enc ++ (g i x).map enc))
    (fin : ∀ E X rv, keepEnv E m = env l.length rv → ∃ T, body (E, H ++ X) = some (.exit x0, T, H ++ X) ∧ keepEnv T mo = eo rv)
    (st : St) (X0 : Heap) (rv0 : AV) (h0 : Out H.length sz ty X0 rv0 pre) (hE : keepEnv st.1 m = env 0 rv0) (hH : st.2 = H ++ X0) (z : Option (CX × St)) (hz : itLim body st = z) :
    ∃ T X rv, z = some (.exit x0, T, H ++ X) ∧ keepEnv T mo = eo rv ∧ Out H.length sz ty X rv (pre ++ (gath g 0 l).map enc) := by
  have L := loop_rule (σ := Nat × Heap × AV) (m := m) (env := fun s => env s.1 s.2.2) (hp := fun s => H ++ s.2.1)
    (P := fun _ r => ∃ T X rv, r = (.exit x0, T, H ++ X) ∧ keepEnv T mo = eo rv ∧ Out H.length sz ty X rv (pre ++ (gath g 0 l).map enc))
    (mu := fun s => l.length - s.1) (I := fun s => s.1 ≤ l.length ∧ Out H.length sz ty s.2.1 s.2.2 (pre ++ (gath g 0 (l.take s.1)).map enc)) body ?_ (0, X0, rv0) st ⟨by simp, by simpa [gath] using h0⟩ hE hH z hz
  · obtain ⟨_, rfl, T, X, rv, rfl, h⟩ := L
    exact ⟨T, X, rv, rfl, h⟩
  · intro ⟨i, X, rv⟩ ⟨hi, hO⟩ E hE
    simp only at hi hO hE ⊢
    by_cases hlt : i < l.length
    · obtain ⟨x, hx⟩ : ∃ x, l[i]? = some x := ⟨_, List.getElem?_eq_getElem hlt⟩
      obtain ⟨T, X', rv', h1, h2, h3⟩ := step i x hx E X rv hE hO
      rw [h1]
      refine q_next (i + 1, X', rv') h2 rfl ⟨by omega, ?_⟩ (by simp only; omega) fun r h => h
      simp only [gath_take g l 0 i x hx, Nat.zero_add, List.map_append]
      simpa only [List.append_assoc] using h3
    · have : i = l.length := by omega
      subst this
      obtain ⟨T, h1, h2⟩ := fin E X rv hE
      rw [h1]
      rw [List.take_of_length_le (Nat.le_refl _)] at hO
      exact q_exit ⟨_, _, _, rfl, h2, hO⟩
theorem app_row {n sz ty : Nat} {X : Heap} {rv : AV} {rows : List (List AV)} (h : Out n sz ty X rv rows) (H0 : Heap) (hn : n = H0.length) (bytes : Nat) (r : List AV) (hr : r.length = sz) (hb : (rows.length + 1) * bytes ≤ reach ∧ rows.length + 1 ≤ reach) :
    ∃ rv' X', appK ty sz bytes false (H0 ++ (X ++ [⟨0, true, ty, sz, [r]⟩])) (some rv) (some (.ref (n + X.length) 0 sz 0 1)) = some (rv', H0 ++ X') ∧ rv'.isTup = false ∧ Out n sz ty X' rv' (rows ++ [r]) ∧ Keeps n (X ++ [⟨0, true, ty, sz, [r]⟩]) rv X' ∧ Moved n (X ++ [⟨0, true, ty, sz, [r]⟩]) rv rv' := by
  subst hn
  exact (h.more [⟨0, true, ty, sz, [r]⟩]).app2 H0 rfl bytes _ [r] (by simp [srcRows, rowsOf, curBlk, at_app]) (by simpa using hr) (by simp) (by simpa using hb)
end Go.Proofs.Ytondenmkhfignaa.Code

/- TopScreen: all functions are held, by the kernel's look or by a proof of their own. -/
set_option linter.unusedSimpArgs false
set_option linter.unusedVariables false
namespace Go.Proofs.Ytondenmkhfignaa.Code
open Go.Proofs.Ytondenmkhfignaa.Ev

theorem cprog_sound {f : Nat} {c : CFn} (h : cprog f = some c) : okFn Go.Proofs.Try.prog f c = true ∨ Held Go.Proofs.Try.prog f c := by
  rcases cprog_ok h with h | h
  · exact .inl h
  · simp only [utab, List.mem_cons, Prod.mk.injEq, List.not_mem_nil, or_false] at h
    obtain ⟨rfl, rfl⟩ := h
    exact .inr (.inl (userRpt rfl rfl rfl rfl))
end Go.Proofs.Ytondenmkhfignaa.Code

/- screen: forms; names and texts. -/
set_option linter.unusedSimpArgs false
set_option linter.unusedVariables false
namespace Go.Proofs.Ytondenmkhfignaa.Code
open Go.Proofs.Ytondenmkhfignaa.Ev

structure Mark where
  row : Int
  col : Int
  text : ByteArray
structure Slot where
  name : ByteArray
  row : Int
  col : Int
  bytes : Int
  inn : Int
  out : Int
  fill : UInt8
structure Form where
  rows : Int
  cols : Int
  marks : List Mark
  slots : List Slot
structure Span where
  row : Int
  col : Int
  n : Int
def rMark (m : Mark) : List AV := [.int .i64 m.row, .int .i64 m.col, .str m.text]
def eMarks (l : List Mark) : AV := .lst (l.map rMark)
def rSlot (s : Slot) : List AV := [.str s.name, .int .i64 s.row, .int .i64 s.col, .int .i64 s.bytes, .int .i64 s.inn, .int .i64 s.out, .int .u8 (s.fill.toNat : Int)]
def eSlots (l : List Slot) : AV := .lst (l.map rSlot)
def eForm (f : Form) : AV := .agg [.int .i64 f.rows, .int .i64 f.cols, eMarks f.marks, eSlots f.slots]
def bForm (f : Form) : Blk := ⟨0, true, 25, 4, [[.int .i64 f.rows, .int .i64 f.cols, eMarks f.marks, eSlots f.slots]]⟩
def bSlot (s : Slot) : Blk := ⟨0, true, 89, 7, [rSlot s]⟩
def rSpan (x : Span) : List AV := [.int .i64 x.row, .int .i64 x.col, .int .i64 x.n]
def eSpans (l : List Span) : AV := .lst (l.map rSpan)
theorem aMark {l : List Mark} {i : Nat} {x : Mark} (hx : l[i]? = some x) : iaddrK 3 (some (eMarks l)) (some (.int .i64 (i : Int))) = some (.fptr (rMark x)) := lFp rMark (fun _ => rfl) hx
theorem aSlot {l : List Slot} {i : Nat} {x : Slot} (hx : l[i]? = some x) : iaddrK 7 (some (eSlots l)) (some (.int .i64 (i : Int))) = some (.fptr (rSlot x)) := lFp rSlot (fun _ => rfl) hx
theorem aSpan {l : List Span} {i : Nat} {x : Span} (hx : l[i]? = some x) : iaddrK 3 (some (eSpans l)) (some (.int .i64 (i : Int))) = some (.fptr (rSpan x)) := lFp rSpan (fun _ => rfl) hx
theorem sMarks (H : Heap) (l : List Mark) : SlAt H 3 (eMarks l) (l.map rMark) := sLst rMark (fun _ => rfl) H l
theorem sSlots (H : Heap) (l : List Slot) : SlAt H 7 (eSlots l) (l.map rSlot) := sLst rSlot (fun _ => rfl) H l
theorem sSpans (H : Heap) (l : List Span) : SlAt H 3 (eSpans l) (l.map rSpan) := sLst rSpan (fun _ => rfl) H l
theorem lSlot (s : Slot) : Loads true 7 (rSlot s) (.agg (rSlot s)) := ⟨rfl, rfl⟩
theorem lSpan (s : Span) : Loads true 3 (rSpan s) (.agg (rSpan s)) := ⟨rfl, rfl⟩
theorem plain_spans (q : List Span) : Plain (q.map rSpan) := by
  intro r hr a ha
  obtain ⟨n, _, rfl⟩ := List.mem_map.1 hr
  simp only [rSpan, List.mem_cons, List.not_mem_nil, or_false] at ha
  rcases ha with rfl | rfl | rfl <;> exact ⟨rfl, fun _ _ => rfl⟩

def letter (c : UInt8) : Bool := decide ((65 : Int) ≤ c.toNat) && decide ((c.toNat : Int) ≤ 90)
def digit (c : UInt8) : Bool := decide ((48 : Int) ≤ c.toNat) && decide ((c.toNat : Int) ≤ 57)
def nameOk (i : Nat) (c : UInt8) : Bool := letter c || (decide (i ≠ 0) && digit c)
noncomputable def isName (s : ByteArray) : Bool := tell (∀ (i : Nat) (c : UInt8), s.data.toList[i]? = some c → nameOk i c = true) && decide ((1 : Int) ≤ s.size) && decide ((s.size : Int) ≤ 8)
theorem f160 (s : ByteArray) (hs : s.size < 9223372036854775807) (H : Heap) : cal (evC cprog) false 160 [.str s] H = some (.bool (isName s), H) := by
  rw [cal_of at160]
  simp only [c160, evX, Int.reduceEq, Int.reduceLT, Int.reduceLE, Nat.reduceMul, Nat.reduceMod, evW, fn_eq, evR, Nat.reduceAdd, Nat.reduceLT, Nat.reduceLeDiff, reduceIte, Nat.reduceEqDiff, reduceCtorEq, argEnv, eq_self, if_true, if_false]
  repeat' ((first | rw [guardK_cases] | rw [condK_bool] | rw [guardD_cases]); split <;> simp only [c160, evX, Int.reduceEq, Int.reduceLT, Int.reduceLE, Nat.reduceMul, Nat.reduceMod, evW, evR, Nat.reduceAdd, Nat.reduceLT, Nat.reduceLeDiff, reduceIte, Nat.reduceEqDiff, reduceCtorEq, argEnv, eq_self, if_true, if_false, *])
  generalize hz : itLim _ _ = z
  have L := scan_rule s.data.toList nameOk [0, 6, 7] (fun i => [(0, .str s), (6, .int .i64 (s.size : Int)), (7, .int .i64 (i : Int))]) H [] (evCode (evC cprog) itLim c160_l0) (fun c T => c = .exit 0 ∧ keepEnv T [0] = [(0, .str s)]) (fun _ _ c T => c = .ret ∧ get T 2 = some (.bool false))
    (fun i c hx E G hE => by
      have hlt : i < s.size := by rw [← size_eq]; exact (List.getElem?_eq_some_iff.1 hx).1
      have hi : (i : Int) < (s.size : Int) := by omega
      have hc := idx_at s hx
      simp only [c160_l0, hE, hi, hc, wrapS hlt hs, evX, Int.reduceEq, Int.reduceLT, Int.reduceLE, Nat.reduceMul, Nat.reduceMod, evW, fn_eq, evR, Nat.reduceAdd, Nat.reduceLT, Nat.reduceLeDiff, reduceIte, Nat.reduceEqDiff, reduceCtorEq, argEnv, eq_self, if_true, if_false]
      repeat' ((first | rw [guardK_cases] | rw [condK_bool] | rw [guardD_cases]); split <;> simp only [c160_l0, hE, hi, hc, wrapS hlt hs, evX, Int.reduceEq, Int.reduceLT, Int.reduceLE, Nat.reduceMul, Nat.reduceMod, evW, evR, Nat.reduceAdd, Nat.reduceLT, Nat.reduceLeDiff, reduceIte, Nat.reduceEqDiff, reduceCtorEq, argEnv, eq_self, if_true, if_false, *])
      all_goals first | exact Sc.next (by first | (simp_all [nameOk, letter, digit]; done) | (simp_all [nameOk, letter, digit]; intros; omega)) (by rfl) | exact Sc.ret (by first | (simp_all [nameOk, letter, digit]; done) | (simp_all [nameOk, letter, digit]; intros; omega)) ⟨rfl, by first | rfl | exact ⟨rfl, rfl, rfl⟩⟩ | exact Sc.exit (by first | (simp_all [nameOk, letter, digit]; done) | (simp_all [nameOk, letter, digit]; intros; omega)) ⟨rfl, rfl⟩)
    (fun E G hE => by
      rw [size_eq] at hE
      simp only [c160_l0, hE, Int.lt_irrefl, evX, Int.reduceEq, Int.reduceLT, Int.reduceLE, Nat.reduceMul, Nat.reduceMod, evW, fn_eq, evR, Nat.reduceAdd, Nat.reduceLT, Nat.reduceLeDiff, reduceIte, Nat.reduceEqDiff, reduceCtorEq, argEnv, eq_self, if_true, if_false]
      repeat' ((first | rw [guardK_cases] | rw [condK_bool] | rw [guardD_cases]); split <;> simp only [c160_l0, hE, Int.lt_irrefl, evX, Int.reduceEq, Int.reduceLT, Int.reduceLE, Nat.reduceMul, Nat.reduceMod, evW, evR, Nat.reduceAdd, Nat.reduceLT, Nat.reduceLeDiff, reduceIte, Nat.reduceEqDiff, reduceCtorEq, argEnv, eq_self, if_true, if_false, *])
      exact .exit (K := []) ⟨rfl, by rfl⟩) _ [] (by rfl) (by simp) z hz
  rcases L with ⟨ha, c, T, G, rfl, _, rfl, hT⟩ | ⟨i, r, hx, ha, _, c, T, G, rfl, _, rfl, hT⟩
  · simp only [hT, evX, Int.reduceEq, Int.reduceLT, Int.reduceLE, Nat.reduceMul, Nat.reduceMod, evW, fn_eq, evR, Nat.reduceAdd, Nat.reduceLT, Nat.reduceLeDiff, reduceIte, Nat.reduceEqDiff, reduceCtorEq, argEnv, eq_self, if_true, if_false]
    repeat' ((first | rw [guardK_cases] | rw [condK_bool] | rw [guardD_cases]); split <;> simp only [hT, evX, Int.reduceEq, Int.reduceLT, Int.reduceLE, Nat.reduceMul, Nat.reduceMod, evW, evR, Nat.reduceAdd, Nat.reduceLT, Nat.reduceLeDiff, reduceIte, Nat.reduceEqDiff, reduceCtorEq, argEnv, eq_self, if_true, if_false, *])
    all_goals (simp_all [isName, tell_pos]; try (intros; omega))
  · simp only [hT, evX, Int.reduceEq, Int.reduceLT, Int.reduceLE, Nat.reduceMul, Nat.reduceMod, evW, fn_eq, evR, Nat.reduceAdd, Nat.reduceLT, Nat.reduceLeDiff, reduceIte, Nat.reduceEqDiff, reduceCtorEq, argEnv, eq_self, if_true, if_false]
    repeat' ((first | rw [guardK_cases] | rw [condK_bool] | rw [guardD_cases]); split <;> simp only [hT, evX, Int.reduceEq, Int.reduceLT, Int.reduceLE, Nat.reduceMul, Nat.reduceMod, evW, evR, Nat.reduceAdd, Nat.reduceLT, Nat.reduceLeDiff, reduceIte, Nat.reduceEqDiff, reduceCtorEq, argEnv, eq_self, if_true, if_false, *])
    have : isName s = false := by
      unfold isName
      rw [tell_neg fun h => by rw [h i r hx] at ha; cases ha]; rfl
    rw [this]
theorem f86 (s : ByteArray) (hs : s.size < 9223372036854775807) (H : Heap) : cal (evC cprog) false 86 [.str s] H = some (.bool (isName s), H) := by
  rw [cal_of at86]
  simp only [c86, evX, Int.reduceEq, Int.reduceLT, Int.reduceLE, Nat.reduceMul, Nat.reduceMod, evW, fn_eq, evR, Nat.reduceAdd, Nat.reduceLT, Nat.reduceLeDiff, reduceIte, Nat.reduceEqDiff, reduceCtorEq, argEnv, eq_self, if_true, if_false]
  repeat' ((first | rw [guardK_cases] | rw [condK_bool] | rw [guardD_cases]); split <;> simp only [c86, evX, Int.reduceEq, Int.reduceLT, Int.reduceLE, Nat.reduceMul, Nat.reduceMod, evW, evR, Nat.reduceAdd, Nat.reduceLT, Nat.reduceLeDiff, reduceIte, Nat.reduceEqDiff, reduceCtorEq, argEnv, eq_self, if_true, if_false, *])
  generalize hz : itLim _ _ = z
  have L := scan_rule s.data.toList nameOk [0, 3] (fun i => [(0, .str s), (3, .int .i64 (i : Int))]) H [] (evCode (evC cprog) itLim c86_l0) (fun c T => c = .exit 0 ∧ keepEnv T [0] = [(0, .str s)]) (fun _ _ c T => c = .ret ∧ get T 2 = some (.bool false))
    (fun i c hx E G hE => by
      have hlt : i < s.size := by rw [← size_eq]; exact (List.getElem?_eq_some_iff.1 hx).1
      have hi : (i : Int) < (s.size : Int) := by omega
      have hc := idx_at s hx
      simp only [c86_l0, hE, hi, hc, wrapS hlt hs, evX, Int.reduceEq, Int.reduceLT, Int.reduceLE, Nat.reduceMul, Nat.reduceMod, evW, fn_eq, evR, Nat.reduceAdd, Nat.reduceLT, Nat.reduceLeDiff, reduceIte, Nat.reduceEqDiff, reduceCtorEq, argEnv, eq_self, if_true, if_false]
      repeat' ((first | rw [guardK_cases] | rw [condK_bool] | rw [guardD_cases]); split <;> simp only [c86_l0, hE, hi, hc, wrapS hlt hs, evX, Int.reduceEq, Int.reduceLT, Int.reduceLE, Nat.reduceMul, Nat.reduceMod, evW, evR, Nat.reduceAdd, Nat.reduceLT, Nat.reduceLeDiff, reduceIte, Nat.reduceEqDiff, reduceCtorEq, argEnv, eq_self, if_true, if_false, *])
      all_goals first | exact Sc.next (by first | (simp_all [nameOk, letter, digit]; done) | (simp_all [nameOk, letter, digit]; intros; omega)) (by rfl) | exact Sc.ret (by first | (simp_all [nameOk, letter, digit]; done) | (simp_all [nameOk, letter, digit]; intros; omega)) ⟨rfl, by first | rfl | exact ⟨rfl, rfl, rfl⟩⟩ | exact Sc.exit (by first | (simp_all [nameOk, letter, digit]; done) | (simp_all [nameOk, letter, digit]; intros; omega)) ⟨rfl, rfl⟩)
    (fun E G hE => by
      rw [size_eq] at hE
      simp only [c86_l0, hE, Int.lt_irrefl, evX, Int.reduceEq, Int.reduceLT, Int.reduceLE, Nat.reduceMul, Nat.reduceMod, evW, fn_eq, evR, Nat.reduceAdd, Nat.reduceLT, Nat.reduceLeDiff, reduceIte, Nat.reduceEqDiff, reduceCtorEq, argEnv, eq_self, if_true, if_false]
      repeat' ((first | rw [guardK_cases] | rw [condK_bool] | rw [guardD_cases]); split <;> simp only [c86_l0, hE, Int.lt_irrefl, evX, Int.reduceEq, Int.reduceLT, Int.reduceLE, Nat.reduceMul, Nat.reduceMod, evW, evR, Nat.reduceAdd, Nat.reduceLT, Nat.reduceLeDiff, reduceIte, Nat.reduceEqDiff, reduceCtorEq, argEnv, eq_self, if_true, if_false, *])
      exact .exit (K := []) ⟨rfl, by rfl⟩) _ [] (by rfl) (by simp) z hz
  rcases L with ⟨ha, c, T, G, rfl, _, rfl, hT⟩ | ⟨i, r, hx, ha, _, c, T, G, rfl, _, rfl, hT⟩
  · simp only [hT, evX, Int.reduceEq, Int.reduceLT, Int.reduceLE, Nat.reduceMul, Nat.reduceMod, evW, fn_eq, evR, Nat.reduceAdd, Nat.reduceLT, Nat.reduceLeDiff, reduceIte, Nat.reduceEqDiff, reduceCtorEq, argEnv, eq_self, if_true, if_false]
    repeat' ((first | rw [guardK_cases] | rw [condK_bool] | rw [guardD_cases]); split <;> simp only [hT, evX, Int.reduceEq, Int.reduceLT, Int.reduceLE, Nat.reduceMul, Nat.reduceMod, evW, evR, Nat.reduceAdd, Nat.reduceLT, Nat.reduceLeDiff, reduceIte, Nat.reduceEqDiff, reduceCtorEq, argEnv, eq_self, if_true, if_false, *])
    all_goals (simp_all [isName, tell_pos]; try (intros; omega))
  · simp only [hT, evX, Int.reduceEq, Int.reduceLT, Int.reduceLE, Nat.reduceMul, Nat.reduceMod, evW, fn_eq, evR, Nat.reduceAdd, Nat.reduceLT, Nat.reduceLeDiff, reduceIte, Nat.reduceEqDiff, reduceCtorEq, argEnv, eq_self, if_true, if_false]
    repeat' ((first | rw [guardK_cases] | rw [condK_bool] | rw [guardD_cases]); split <;> simp only [hT, evX, Int.reduceEq, Int.reduceLT, Int.reduceLE, Nat.reduceMul, Nat.reduceMod, evW, evR, Nat.reduceAdd, Nat.reduceLT, Nat.reduceLeDiff, reduceIte, Nat.reduceEqDiff, reduceCtorEq, argEnv, eq_self, if_true, if_false, *])
    have : isName s = false := by
      unfold isName
      rw [tell_neg fun h => by rw [h i r hx] at ha; cases ha]; rfl
    rw [this]
/-- a byte that may be shown -/
def okB (c : UInt8) : Bool := decide ((32 : Int) ≤ c.toNat) && decide ((c.toNat : Int) ≤ 126)
def isText (s : ByteArray) : Bool := s.data.toList.all okB
theorem f41 (s : ByteArray) (hs : s.size < 9223372036854775807) (H : Heap) : cal (evC cprog) false 41 [.str s] H = some (.bool (isText s), H) := by
  rw [cal_of at41]
  simp only [c41, evX, Int.reduceEq, Int.reduceLT, Int.reduceLE, Nat.reduceMul, Nat.reduceMod, evW, fn_eq, evR, Nat.reduceAdd, Nat.reduceLT, Nat.reduceLeDiff, reduceIte, Nat.reduceEqDiff, reduceCtorEq, argEnv, eq_self, if_true, if_false]
  repeat' ((first | rw [guardK_cases] | rw [condK_bool] | rw [guardD_cases]); split <;> simp only [c41, evX, Int.reduceEq, Int.reduceLT, Int.reduceLE, Nat.reduceMul, Nat.reduceMod, evW, evR, Nat.reduceAdd, Nat.reduceLT, Nat.reduceLeDiff, reduceIte, Nat.reduceEqDiff, reduceCtorEq, argEnv, eq_self, if_true, if_false, *])
  generalize hz : itLim _ _ = z
  have L := all_rule s.data.toList okB [0, 3] (fun i => [(0, .str s), (3, .int .i64 (i : Int))]) H [] (evCode (evC cprog) itLim c41_l0) (fun c T => c = .exit 0) (fun c T => c = .ret ∧ get T 2 = some (.bool false))
    (fun i c hx E G hE => by
      have hlt : i < s.size := by rw [← size_eq]; exact (List.getElem?_eq_some_iff.1 hx).1
      have hi : (i : Int) < (s.size : Int) := by omega
      have hc := idx_at s hx
      simp only [c41_l0, hE, hi, hc, wrapS hlt hs, evX, Int.reduceEq, Int.reduceLT, Int.reduceLE, Nat.reduceMul, Nat.reduceMod, evW, fn_eq, evR, Nat.reduceAdd, Nat.reduceLT, Nat.reduceLeDiff, reduceIte, Nat.reduceEqDiff, reduceCtorEq, argEnv, eq_self, if_true, if_false]
      repeat' ((first | rw [guardK_cases] | rw [condK_bool] | rw [guardD_cases]); split <;> simp only [c41_l0, hE, hi, hc, wrapS hlt hs, evX, Int.reduceEq, Int.reduceLT, Int.reduceLE, Nat.reduceMul, Nat.reduceMod, evW, evR, Nat.reduceAdd, Nat.reduceLT, Nat.reduceLeDiff, reduceIte, Nat.reduceEqDiff, reduceCtorEq, argEnv, eq_self, if_true, if_false, *])
      all_goals first | exact Sc.next (by first | (simp_all [okB]; done) | (simp_all [okB]; intros; omega)) (by rfl) | exact Sc.ret (by first | (simp_all [okB]; done) | (simp_all [okB]; intros; omega)) ⟨rfl, by first | rfl | exact ⟨rfl, rfl, rfl⟩⟩ | exact Sc.exit (by first | (simp_all [okB]; done) | (simp_all [okB]; intros; omega)) ⟨rfl, rfl⟩)
    (fun E G hE => by
      rw [size_eq] at hE
      simp only [c41_l0, hE, Int.lt_irrefl, evX, Int.reduceEq, Int.reduceLT, Int.reduceLE, Nat.reduceMul, Nat.reduceMod, evW, fn_eq, evR, Nat.reduceAdd, Nat.reduceLT, Nat.reduceLeDiff, reduceIte, Nat.reduceEqDiff, reduceCtorEq, argEnv, eq_self, if_true, if_false]
      repeat' ((first | rw [guardK_cases] | rw [condK_bool] | rw [guardD_cases]); split <;> simp only [c41_l0, hE, Int.lt_irrefl, evX, Int.reduceEq, Int.reduceLT, Int.reduceLE, Nat.reduceMul, Nat.reduceMod, evW, evR, Nat.reduceAdd, Nat.reduceLT, Nat.reduceLeDiff, reduceIte, Nat.reduceEqDiff, reduceCtorEq, argEnv, eq_self, if_true, if_false, *])
      exact .exit (K := []) rfl) _ [] (by rfl) (by simp) z hz
  rcases L with ⟨ha, c, T, G, rfl, _, rfl⟩ | ⟨ha, c, T, G, rfl, _, rfl, hT⟩
  · rw [show isText s = true from ha]
    simp only [evX, Int.reduceEq, Int.reduceLT, Int.reduceLE, Nat.reduceMul, Nat.reduceMod, evW, fn_eq, evR, Nat.reduceAdd, Nat.reduceLT, Nat.reduceLeDiff, reduceIte, Nat.reduceEqDiff, reduceCtorEq, argEnv, eq_self, if_true, if_false]
    repeat' ((first | rw [guardK_cases] | rw [condK_bool] | rw [guardD_cases]); split <;> simp only [evX, Int.reduceEq, Int.reduceLT, Int.reduceLE, Nat.reduceMul, Nat.reduceMod, evW, evR, Nat.reduceAdd, Nat.reduceLT, Nat.reduceLeDiff, reduceIte, Nat.reduceEqDiff, reduceCtorEq, argEnv, eq_self, if_true, if_false, *])
  · rw [show isText s = false from ha]
    simp only [hT, evX, Int.reduceEq, Int.reduceLT, Int.reduceLE, Nat.reduceMul, Nat.reduceMod, evW, fn_eq, evR, Nat.reduceAdd, Nat.reduceLT, Nat.reduceLeDiff, reduceIte, Nat.reduceEqDiff, reduceCtorEq, argEnv, eq_self, if_true, if_false]
    repeat' ((first | rw [guardK_cases] | rw [condK_bool] | rw [guardD_cases]); split <;> simp only [hT, evX, Int.reduceEq, Int.reduceLT, Int.reduceLE, Nat.reduceMul, Nat.reduceMod, evW, evR, Nat.reduceAdd, Nat.reduceLT, Nat.reduceLeDiff, reduceIte, Nat.reduceEqDiff, reduceCtorEq, argEnv, eq_self, if_true, if_false, *])
theorem f153 (c : UInt8) (H : Heap) : cal (evC cprog) false 153 [.int .u8 (c.toNat : Int)] H = some (.bool (okB c), H) := by
  rw [cal_of at153]
  simp only [c153, evX, Int.reduceEq, Int.reduceLT, Int.reduceLE, Nat.reduceMul, Nat.reduceMod, evW, fn_eq, evR, Nat.reduceAdd, Nat.reduceLT, Nat.reduceLeDiff, reduceIte, Nat.reduceEqDiff, reduceCtorEq, argEnv, eq_self, if_true, if_false]
  repeat' ((first | rw [guardK_cases] | rw [condK_bool] | rw [guardD_cases]); split <;> simp only [c153, evX, Int.reduceEq, Int.reduceLT, Int.reduceLE, Nat.reduceMul, Nat.reduceMod, evW, evR, Nat.reduceAdd, Nat.reduceLT, Nat.reduceLeDiff, reduceIte, Nat.reduceEqDiff, reduceCtorEq, argEnv, eq_self, if_true, if_false, *])
  all_goals (simp_all [okB]; try (intros; omega))
theorem f89 (s : ByteArray) (hs : s.size < 9223372036854775807) (H : Heap) : cal (evC cprog) false 89 [.str s] H = some (.bool (isText s), H) := by
  rw [cal_of at89]
  simp only [c89, evX, Int.reduceEq, Int.reduceLT, Int.reduceLE, Nat.reduceMul, Nat.reduceMod, evW, fn_eq, evR, Nat.reduceAdd, Nat.reduceLT, Nat.reduceLeDiff, reduceIte, Nat.reduceEqDiff, reduceCtorEq, argEnv, eq_self, if_true, if_false]
  repeat' ((first | rw [guardK_cases] | rw [condK_bool] | rw [guardD_cases]); split <;> simp only [c89, evX, Int.reduceEq, Int.reduceLT, Int.reduceLE, Nat.reduceMul, Nat.reduceMod, evW, evR, Nat.reduceAdd, Nat.reduceLT, Nat.reduceLeDiff, reduceIte, Nat.reduceEqDiff, reduceCtorEq, argEnv, eq_self, if_true, if_false, *])
  generalize hz : itLim _ _ = z
  have L := all_rule s.data.toList okB [0, 5, 6] (fun i => [(0, .str s), (5, .int .i64 (s.size : Int)), (6, .int .i64 (i : Int))]) H [] (evCode (evC cprog) itLim c89_l0) (fun c T => c = .exit 0) (fun c T => c = .ret ∧ get T 2 = some (.bool false))
    (fun i c hx E G hE => by
      have hlt : i < s.size := by rw [← size_eq]; exact (List.getElem?_eq_some_iff.1 hx).1
      have hi : (i : Int) < (s.size : Int) := by omega
      have hc := idx_at s hx
      have h1 := f153 c
      cases hb : okB c with
      | true =>
        rw [hb] at h1
        simp only [c89_l0, hE, hi, hc, h1, wrapS hlt hs, evX, Int.reduceEq, Int.reduceLT, Int.reduceLE, Nat.reduceMul, Nat.reduceMod, evW, fn_eq, evR, Nat.reduceAdd, Nat.reduceLT, Nat.reduceLeDiff, reduceIte, Nat.reduceEqDiff, reduceCtorEq, argEnv, eq_self, if_true, if_false]
        repeat' ((first | rw [guardK_cases] | rw [condK_bool] | rw [guardD_cases]); split <;> simp only [c89_l0, hE, hi, hc, h1, wrapS hlt hs, evX, Int.reduceEq, Int.reduceLT, Int.reduceLE, Nat.reduceMul, Nat.reduceMod, evW, evR, Nat.reduceAdd, Nat.reduceLT, Nat.reduceLeDiff, reduceIte, Nat.reduceEqDiff, reduceCtorEq, argEnv, eq_self, if_true, if_false, *])
        exact Sc.next rfl (by rfl)
      | false =>
        rw [hb] at h1
        simp only [c89_l0, hE, hi, hc, h1, evX, Int.reduceEq, Int.reduceLT, Int.reduceLE, Nat.reduceMul, Nat.reduceMod, evW, fn_eq, evR, Nat.reduceAdd, Nat.reduceLT, Nat.reduceLeDiff, reduceIte, Nat.reduceEqDiff, reduceCtorEq, argEnv, eq_self, if_true, if_false]
        repeat' ((first | rw [guardK_cases] | rw [condK_bool] | rw [guardD_cases]); split <;> simp only [c89_l0, hE, hi, hc, h1, evX, Int.reduceEq, Int.reduceLT, Int.reduceLE, Nat.reduceMul, Nat.reduceMod, evW, evR, Nat.reduceAdd, Nat.reduceLT, Nat.reduceLeDiff, reduceIte, Nat.reduceEqDiff, reduceCtorEq, argEnv, eq_self, if_true, if_false, *])
        exact Sc.ret rfl ⟨rfl, rfl⟩)
    (fun E G hE => by
      rw [size_eq] at hE
      simp only [c89_l0, hE, Int.lt_irrefl, evX, Int.reduceEq, Int.reduceLT, Int.reduceLE, Nat.reduceMul, Nat.reduceMod, evW, fn_eq, evR, Nat.reduceAdd, Nat.reduceLT, Nat.reduceLeDiff, reduceIte, Nat.reduceEqDiff, reduceCtorEq, argEnv, eq_self, if_true, if_false]
      repeat' ((first | rw [guardK_cases] | rw [condK_bool] | rw [guardD_cases]); split <;> simp only [c89_l0, hE, Int.lt_irrefl, evX, Int.reduceEq, Int.reduceLT, Int.reduceLE, Nat.reduceMul, Nat.reduceMod, evW, evR, Nat.reduceAdd, Nat.reduceLT, Nat.reduceLeDiff, reduceIte, Nat.reduceEqDiff, reduceCtorEq, argEnv, eq_self, if_true, if_false, *])
      exact .exit (K := []) rfl) _ [] (by rfl) (by simp) z hz
  rcases L with ⟨ha, c, T, G, rfl, _, rfl⟩ | ⟨ha, c, T, G, rfl, _, rfl, hT⟩
  · rw [show isText s = true from ha]
    simp only [evX, Int.reduceEq, Int.reduceLT, Int.reduceLE, Nat.reduceMul, Nat.reduceMod, evW, fn_eq, evR, Nat.reduceAdd, Nat.reduceLT, Nat.reduceLeDiff, reduceIte, Nat.reduceEqDiff, reduceCtorEq, argEnv, eq_self, if_true, if_false]
    repeat' ((first | rw [guardK_cases] | rw [condK_bool] | rw [guardD_cases]); split <;> simp only [evX, Int.reduceEq, Int.reduceLT, Int.reduceLE, Nat.reduceMul, Nat.reduceMod, evW, evR, Nat.reduceAdd, Nat.reduceLT, Nat.reduceLeDiff, reduceIte, Nat.reduceEqDiff, reduceCtorEq, argEnv, eq_self, if_true, if_false, *])
  · rw [show isText s = false from ha]
    simp only [hT, evX, Int.reduceEq, Int.reduceLT, Int.reduceLE, Nat.reduceMul, Nat.reduceMod, evW, fn_eq, evR, Nat.reduceAdd, Nat.reduceLT, Nat.reduceLeDiff, reduceIte, Nat.reduceEqDiff, reduceCtorEq, argEnv, eq_self, if_true, if_false]
    repeat' ((first | rw [guardK_cases] | rw [condK_bool] | rw [guardD_cases]); split <;> simp only [hT, evX, Int.reduceEq, Int.reduceLT, Int.reduceLE, Nat.reduceMul, Nat.reduceMod, evW, evR, Nat.reduceAdd, Nat.reduceLT, Nat.reduceLeDiff, reduceIte, Nat.reduceEqDiff, reduceCtorEq, argEnv, eq_self, if_true, if_false, *])
end Go.Proofs.Ytondenmkhfignaa.Code

/- screen: pictures: what is laid, and what is read (mathematics). -/
set_option linter.unusedSimpArgs false
set_option linter.unusedVariables false
namespace Go.Proofs.Ytondenmkhfignaa.Code
open Go.Proofs.Ytondenmkhfignaa.Ev

theorem ext_list (s : ByteArray) (a c : Nat) : (s.extract a c).data.toList = (s.data.toList.take c).drop a := by
  rw [ByteArray.data_extract, Array.toList_extract, List.extract_eq_take_drop, List.drop_take]
theorem app_list (s t : ByteArray) : (s ++ t).data.toList = s.data.toList ++ t.data.toList := by
  rw [ByteArray.data_append, Array.toList_append]
theorem bytes_ext {s t : ByteArray} (h : s.data.toList = t.data.toList) : s = t := data_ext (Array.toList_inj.1 h)
def rowP (p : List ByteArray) (r : Nat) : ByteArray := (p[r]?).getD ⟨#[]⟩
theorem rowP_at {p : List ByteArray} {r : Nat} {s : ByteArray} (h : p[r]? = some s) : rowP p r = s := by simp [rowP, h]
/-- the byte at a place -/
def cellP (p : List ByteArray) (i j : Nat) : Option UInt8 := (p[i]?).bind fun s => s.data.toList[j]?
/-- a picture with a text laid into a row -/
def lay (p : List ByteArray) (r c : Nat) (s : ByteArray) : List ByteArray := p.set r ((rowP p r).extract 0 c ++ s ++ (rowP p r).extract (c + s.size) (rowP p r).size)
structure Dim (p : List ByteArray) (R C : Nat) : Prop where
  len : p.length = R
  row : ∀ s ∈ p, s.size = C
theorem Dim.at {p : List ByteArray} {R C r : Nat} (h : Dim p R C) (hr : r < R) : ∃ s, p[r]? = some s ∧ s.size = C ∧ rowP p r = s := by
  obtain ⟨s, hs⟩ : ∃ s, p[r]? = some s := ⟨_, List.getElem?_eq_getElem (by rw [h.len]; exact hr)⟩
  exact ⟨s, hs, h.row s (List.mem_of_getElem? hs), rowP_at hs⟩
theorem lay_row {q : ByteArray} {c C : Nat} {s : ByteArray} (hq : q.size = C) (hc : c + s.size ≤ C) : (q.extract 0 c ++ s ++ q.extract (c + s.size) q.size).data.toList = q.data.toList.take c ++ s.data.toList ++ q.data.toList.drop (c + s.size) := by
  rw [app_list, app_list, ext_list, ext_list, List.drop_zero, List.take_of_length_le (show q.data.toList.length ≤ q.size from Nat.le_of_eq (size_eq q))]
theorem Dim.lay {p : List ByteArray} {R C r c : Nat} {s : ByteArray} (h : Dim p R C) (hr : r < R) (hc : c + s.size ≤ C) : Dim (lay p r c s) R C := by
  obtain ⟨q, hq, hqs, hrow⟩ := h.at hr
  refine ⟨by unfold Code.lay; rw [List.length_set]; exact h.len, fun t ht => ?_⟩
  unfold Code.lay at ht
  rcases List.mem_or_eq_of_mem_set ht with ht | rfl
  · exact h.row t ht
  · rw [hrow, ← size_eq, lay_row hqs hc]
    simp only [List.length_append, List.length_take, List.length_drop, size_eq, hqs]
    omega
theorem lay_cell {p : List ByteArray} {R C r c : Nat} {s : ByteArray} (h : Dim p R C) (hr : r < R) (hc : c + s.size ≤ C) (i j : Nat) : cellP (lay p r c s) i j = if i = r ∧ c ≤ j ∧ j < c + s.size then s.data.toList[j - c]? else cellP p i j := by
  obtain ⟨q, hq, hqs, hrow⟩ := h.at hr
  unfold cellP Code.lay
  by_cases hi : i = r
  · subst hi
    rw [List.getElem?_set_self (by rw [h.len]; exact hr), hq]
    simp only [Option.bind_some, true_and]
    rw [hrow, lay_row hqs hc]
    have l1 : (q.data.toList.take c).length = c := by rw [List.length_take, size_eq]; omega
    have l2 := size_eq s
    by_cases h1 : c ≤ j ∧ j < c + s.size
    · rw [if_pos h1, List.append_assoc, List.getElem?_append_right (by omega), l1, List.getElem?_append_left (by omega)]
    · rw [if_neg h1]
      by_cases h2 : j < c
      · rw [List.append_assoc, List.getElem?_append_left (by omega), List.getElem?_take, if_pos h2]
      · rw [List.getElem?_append_right (by rw [List.length_append]; omega), List.length_append, l1, l2, List.getElem?_drop]
        congr 1
        omega
  · rw [List.getElem?_set_ne (by omega), if_neg (by omega)]
theorem dim_ext {p q : List ByteArray} {R C : Nat} (h : Dim p R C) (h' : Dim q R C) (he : ∀ i j, i < R → j < C → cellP p i j = cellP q i j) : p = q := by
  refine List.ext_getElem? fun i => ?_
  by_cases hi : i < R
  · obtain ⟨s, hs, hss, _⟩ := h.at hi
    obtain ⟨t, ht, hts, _⟩ := h'.at hi
    rw [hs, ht]
    congr 1
    refine bytes_ext (List.ext_getElem? fun j => ?_)
    by_cases hj : j < C
    · have := he i j hi hj
      unfold cellP at this
      rw [hs, ht] at this
      exact this
    · rw [List.getElem?_eq_none (by rw [size_eq]; omega), List.getElem?_eq_none (by rw [size_eq]; omega)]
  · rw [List.getElem?_eq_none (by rw [h.len]; omega), List.getElem?_eq_none (by rw [h'.len]; omega)]
/-- what stands in a row's part -/
def readP (p : List ByteArray) (r c n : Nat) : ByteArray := (rowP p r).extract c (c + n)
theorem read_size {p : List ByteArray} {R C r c n : Nat} (h : Dim p R C) (hr : r < R) (hc : c + n ≤ C) : (readP p r c n).size = n := by
  obtain ⟨q, hq, hqs, hrow⟩ := h.at hr
  unfold readP
  rw [hrow, ← size_eq, ext_list, List.length_drop, List.length_take, size_eq]
  omega
theorem read_at {p : List ByteArray} {R C r c n : Nat} (h : Dim p R C) (hr : r < R) {k : Nat} (hk : k < n) : (readP p r c n).data.toList[k]? = cellP p r (c + k) := by
  obtain ⟨q, hq, hqs, hrow⟩ := h.at hr
  unfold readP cellP
  rw [hrow, hq, ext_list, List.getElem?_drop, List.getElem?_take, if_pos (by omega)]
  rfl
/-- a slot's place holds a byte's -/
def inS (s : Slot) (i j : Nat) : Prop := i = s.row.toNat ∧ s.col.toNat ≤ j ∧ j < s.col.toNat + s.bytes.toNat
instance (s : Slot) (i j : Nat) : Decidable (inS s i j) := by unfold inS; infer_instance
/-- texts laid into fields -/
def layS (g : Slot → ByteArray) (p : List ByteArray) (s : Slot) : List ByteArray := lay p s.row.toNat s.col.toNat (g s)
def laysF (g : Slot → ByteArray) (L : List Slot) (p : List ByteArray) : List ByteArray := L.foldl (layS g) p
/-- the fields lie apart within a picture -/
structure Apart (L : List Slot) (R C : Nat) : Prop where
  row : ∀ s ∈ L, s.row.toNat < R
  col : ∀ s ∈ L, s.col.toNat + s.bytes.toNat ≤ C
  dis : L.Pairwise fun a b => ∀ i j, ¬ (inS a i j ∧ inS b i j)
theorem Apart.tail {s : Slot} {L : List Slot} {R C : Nat} (h : Apart (s :: L) R C) : Apart L R C := ⟨fun t ht => h.row t (List.mem_cons_of_mem _ ht), fun t ht => h.col t (List.mem_cons_of_mem _ ht), (List.pairwise_cons.1 h.dis).2⟩
theorem lays_dim {g : Slot → ByteArray} {R C : Nat} : ∀ (L : List Slot), Apart L R C → (∀ s ∈ L, (g s).size = s.bytes.toNat) → ∀ p, Dim p R C → Dim (laysF g L p) R C
  | [], _, _, p, h => h
  | s :: L, ha, hg, p, h => by
    have hm := List.mem_cons_self (a := s) (l := L)
    exact lays_dim L ha.tail (fun t ht => hg t (List.mem_cons_of_mem _ ht)) _ (h.lay (ha.row s hm) (by rw [hg s hm]; exact ha.col s hm))
theorem lays_out {g : Slot → ByteArray} {R C i j : Nat} : ∀ (L : List Slot), Apart L R C → (∀ s ∈ L, (g s).size = s.bytes.toNat) → (∀ s ∈ L, ¬ inS s i j) → ∀ p, Dim p R C → cellP (laysF g L p) i j = cellP p i j
  | [], _, _, _, p, h => rfl
  | s :: L, ha, hg, hn, p, h => by
    have hm := List.mem_cons_self (a := s) (l := L)
    have hc : s.col.toNat + (g s).size ≤ C := by rw [hg s hm]; exact ha.col s hm
    have := lays_out L ha.tail (fun t ht => hg t (List.mem_cons_of_mem _ ht)) (fun t ht => hn t (List.mem_cons_of_mem _ ht)) _ (h.lay (ha.row s hm) hc)
    refine Eq.trans this ?_
    rw [lay_cell h (ha.row s hm) hc, if_neg]
    have hx := hn s hm
    unfold inS at hx
    rw [hg s hm]
    exact hx
theorem lays_in {g : Slot → ByteArray} {R C i j : Nat} {s : Slot} (hin : inS s i j) : ∀ (L : List Slot), Apart L R C → (∀ s ∈ L, (g s).size = s.bytes.toNat) → s ∈ L → ∀ p, Dim p R C → cellP (laysF g L p) i j = (g s).data.toList[j - s.col.toNat]?
  | [], _, _, hs, p, h => by cases hs
  | t :: L, ha, hg, hs, p, h => by
    have hm := List.mem_cons_self (a := t) (l := L)
    have hc : t.col.toNat + (g t).size ≤ C := by rw [hg t hm]; exact ha.col t hm
    have hd := h.lay (ha.row t hm) hc
    have hg' := fun t ht => hg t (List.mem_cons_of_mem _ ht)
    by_cases hsl : s ∈ L
    · exact lays_in hin L ha.tail hg' hsl _ hd
    · have hst : s = t := (List.mem_cons.1 hs).resolve_right hsl
      subst hst
      have := lays_out (g := g) (i := i) (j := j) L ha.tail hg' (fun t ht hx => (List.pairwise_cons.1 ha.dis).1 t ht i j ⟨hin, hx⟩) _ hd
      refine Eq.trans this ?_
      rw [lay_cell h (ha.row s hm) hc, if_pos]
      unfold inS at hin
      rw [hg s hm]
      exact hin
/-- a picture: that of the base where no field lies -/
structure Pic (L : List Slot) (q : List ByteArray) (R C : Nat) (p : List ByteArray) : Prop where
  dim : Dim p R C
  txt : ∀ s ∈ p, isText s = true
  out : ∀ i j, i < R → j < C → (∀ s ∈ L, ¬ inS s i j) → cellP p i j = cellP q i j
theorem pic_same {L : List Slot} {q p w : List ByteArray} {R C : Nat} (ha : Apart L R C) (hp : Pic L q R C p) (hw : Dim w R C) (hq : ∀ i j, i < R → j < C → (∀ s ∈ L, ¬ inS s i j) → cellP w i j = cellP q i j) :
    laysF (fun s => readP p s.row.toNat s.col.toNat s.bytes.toNat) L w = p := by
  have hg : ∀ s ∈ L, (readP p s.row.toNat s.col.toNat s.bytes.toNat).size = s.bytes.toNat := fun s hs => read_size hp.dim (ha.row s hs) (ha.col s hs)
  refine dim_ext (lays_dim L ha hg w hw) hp.dim fun i j hi hj => ?_
  by_cases h : ∃ s ∈ L, inS s i j
  · obtain ⟨s, hs, hin⟩ := h
    rw [lays_in hin L ha hg hs w hw]
    obtain ⟨rfl, h1, h2⟩ := hin
    rw [read_at hp.dim hi (by omega)]
    congr 1
    omega
  · have hn : ∀ s ∈ L, ¬ inS s i j := fun s hs hin => h ⟨s, hs, hin⟩
    rw [lays_out L ha hg hn w hw, hq i j hi hj hn, hp.out i j hi hj hn]
theorem txt_ext {a b : ByteArray} : isText (a ++ b) = (isText a && isText b) := by
  unfold isText
  rw [app_list, List.all_append]
theorem txt_cut {a : ByteArray} (h : isText a = true) (m n : Nat) : isText (a.extract m n) = true := by
  unfold isText at *
  rw [ext_list, List.all_eq_true]
  exact fun c hc => List.all_eq_true.1 h c (List.mem_of_mem_take (List.mem_of_mem_drop hc))
theorem lay_txt {p : List ByteArray} {R C r c : Nat} {s : ByteArray} (h : Dim p R C) (hr : r < R) (ht : ∀ s ∈ p, isText s = true) (hs : isText s = true) : ∀ t ∈ lay p r c s, isText t = true := by
  obtain ⟨q, hq, hqs, hrow⟩ := h.at hr
  intro t hm
  unfold lay at hm
  rcases List.mem_or_eq_of_mem_set hm with hm | rfl
  · exact ht t hm
  · rw [hrow, txt_ext, txt_ext, hs, txt_cut (ht q (List.mem_of_getElem? hq)), txt_cut (ht q (List.mem_of_getElem? hq))]
    rfl
/-- a text laid into a field leaves a picture -/
theorem Pic.lay {L : List Slot} {q p : List ByteArray} {R C : Nat} (ha : Apart L R C) (hp : Pic L q R C p) {s : Slot} (hs : s ∈ L) {t : ByteArray} (ht : t.size = s.bytes.toNat) (hx : isText t = true) : Pic L q R C (lay p s.row.toNat s.col.toNat t) := by
  have hc : s.col.toNat + t.size ≤ C := by rw [ht]; exact ha.col s hs
  refine ⟨hp.dim.lay (ha.row s hs) hc, lay_txt hp.dim (ha.row s hs) hp.txt hx, fun i j hi hj hn => ?_⟩
  rw [lay_cell hp.dim (ha.row s hs) hc, if_neg]
  · exact hp.out i j hi hj hn
  · have := hn s hs
    unfold inS at this
    rw [ht]
    exact this
theorem lays_pic {g : Slot → ByteArray} {L : List Slot} {q : List ByteArray} {R C : Nat} (ha : Apart L R C) : ∀ (M : List Slot), (∀ s ∈ M, s ∈ L) → (∀ s ∈ M, (g s).size = s.bytes.toNat ∧ isText (g s) = true) → ∀ p, Pic L q R C p → Pic L q R C (laysF g M p)
  | [], _, _, p, h => h
  | s :: M, hm, hg, p, h => lays_pic ha M (fun t ht => hm t (List.mem_cons_of_mem _ ht)) (fun t ht => hg t (List.mem_cons_of_mem _ ht)) _ (h.lay ha (hm s (List.mem_cons_self ..)) (hg s (List.mem_cons_self ..)).1 (hg s (List.mem_cons_self ..)).2)
theorem read_lays {g : Slot → ByteArray} {L : List Slot} {R C : Nat} (ha : Apart L R C) (hg : ∀ s ∈ L, (g s).size = s.bytes.toNat) {p : List ByteArray} (hp : Dim p R C) {s : Slot} (hs : s ∈ L) : readP (laysF g L p) s.row.toNat s.col.toNat s.bytes.toNat = g s := by
  have hd := lays_dim L ha hg p hp
  refine bytes_ext (List.ext_getElem? fun k => ?_)
  by_cases hk : k < s.bytes.toNat
  · rw [read_at hd (ha.row s hs) hk, lays_in (s := s) ⟨rfl, by omega, by omega⟩ L ha hg hs p hp]
    congr 1
    omega
  · rw [List.getElem?_eq_none (by rw [size_eq, read_size hd (ha.row s hs) (ha.col s hs)]; omega), List.getElem?_eq_none (by rw [size_eq, hg s hs]; omega)]
theorem read_lay {p : List ByteArray} {R C : Nat} (hp : Dim p R C) {s : Slot} (hr : s.row.toNat < R) (hc : s.col.toNat + s.bytes.toNat ≤ C) {t : ByteArray} (ht : t.size = s.bytes.toNat) : readP (lay p s.row.toNat s.col.toNat t) s.row.toNat s.col.toNat s.bytes.toNat = t := by
  have hd := hp.lay (s := t) hr (by rw [ht]; exact hc)
  refine bytes_ext (List.ext_getElem? fun k => ?_)
  by_cases hk : k < s.bytes.toNat
  · rw [read_at hd hr hk, lay_cell hp hr (by rw [ht]; exact hc), if_pos (by rw [ht]; omega)]
    congr 1
    omega
  · rw [List.getElem?_eq_none (by rw [size_eq, read_size hd hr hc]; omega), List.getElem?_eq_none (by rw [size_eq, ht]; omega)]
end Go.Proofs.Ytondenmkhfignaa.Code

/- screen: which forms are valid, as the document asks. -/
set_option linter.unusedSimpArgs false
set_option linter.unusedVariables false
namespace Go.Proofs.Ytondenmkhfignaa.Code
open Go.Proofs.Ytondenmkhfignaa.Ev

structure Form.Ok (f : Form) : Prop where
  marks : f.marks.length < 9223372036854775807
  mark : ∀ m ∈ f.marks, m.text.size < 9223372036854775807
  slots : f.slots.length < 9223372036854775807
  slot : ∀ s ∈ f.slots, s.name.size < 9223372036854775807
def clash (x y : Slot) : Bool := decide (y.name = x.name) || (decide (0 ≤ x.inn) && decide (y.inn = x.inn)) || (decide (0 ≤ x.out) && decide (y.out = x.out))
noncomputable def slotB (x : Slot) : Bool := isName x.name && decide (-1 ≤ x.inn) && decide (x.inn ≤ 3) && decide (-1 ≤ x.out) && decide (x.out ≤ 3) && okB x.fill
noncomputable def slotOk (l : List Slot) (i : Nat) (x : Slot) : Bool := slotB x && !((l.take i).any (clash x))
theorem slcSlots (H : Heap) (l : List Slot) {i : Nat} (hi : i ≤ l.length) : evSlc H 7 (eSlots l) none (some i) none = some (eSlots (l.take i)) := slc_take rSlot (sz := 7) (fun _ => rfl) H l hi
theorem f42 (l : List Slot) (hl : l.length < 9223372036854775807) (x : Slot) (hx : x.name.size < 9223372036854775807) (H : Heap) : cal (evC cprog) false 42 [eSlots l, .agg (rSlot x)] H = some (.bool (slotB x && !(l.any (clash x))), H) := by
  rw [cal_of at42]
  have h86 := f86 x.name hx
  have hlen := (sSlots [] l).len
  simp only [List.length_map] at hlen
  have hcl : (eSlots l).cells = [eSlots l] := rfl
  have htl : (eSlots l).isTup = false := rfl
  cases hn : isName x.name with
  | false =>
    simp only [hn] at h86
    simp only [c42, rSlot, h86, hcl, htl, evX, Int.reduceEq, Int.reduceLT, Int.reduceLE, Nat.reduceMul, Nat.reduceMod, evW, fn_eq, evR, Nat.reduceAdd, Nat.reduceLT, Nat.reduceLeDiff, reduceIte, Nat.reduceEqDiff, reduceCtorEq, argEnv, eq_self, if_true, if_false]
    repeat' ((first | rw [guardK_cases] | rw [condK_bool] | rw [guardD_cases]); split <;> simp only [c42, rSlot, h86, hcl, htl, evX, Int.reduceEq, Int.reduceLT, Int.reduceLE, Nat.reduceMul, Nat.reduceMod, evW, evR, Nat.reduceAdd, Nat.reduceLT, Nat.reduceLeDiff, reduceIte, Nat.reduceEqDiff, reduceCtorEq, argEnv, eq_self, if_true, if_false, *])
    simp [slotB, hn]
  | true =>
    simp only [hn] at h86
    by_cases c1 : x.inn < -1
    · simp only [c42, rSlot, h86, c1, evX, Int.reduceEq, Int.reduceLT, Int.reduceLE, Nat.reduceMul, Nat.reduceMod, evW, fn_eq, evR, Nat.reduceAdd, Nat.reduceLT, Nat.reduceLeDiff, reduceIte, Nat.reduceEqDiff, reduceCtorEq, argEnv, eq_self, if_true, if_false]
      repeat' ((first | rw [guardK_cases] | rw [condK_bool] | rw [guardD_cases]); split <;> simp only [c42, rSlot, h86, c1, evX, Int.reduceEq, Int.reduceLT, Int.reduceLE, Nat.reduceMul, Nat.reduceMod, evW, evR, Nat.reduceAdd, Nat.reduceLT, Nat.reduceLeDiff, reduceIte, Nat.reduceEqDiff, reduceCtorEq, argEnv, eq_self, if_true, if_false, *])
      simp [slotB]; omega
    by_cases c2 : 3 < x.inn
    · simp only [c42, rSlot, h86, c1, c2, evX, Int.reduceEq, Int.reduceLT, Int.reduceLE, Nat.reduceMul, Nat.reduceMod, evW, fn_eq, evR, Nat.reduceAdd, Nat.reduceLT, Nat.reduceLeDiff, reduceIte, Nat.reduceEqDiff, reduceCtorEq, argEnv, eq_self, if_true, if_false]
      repeat' ((first | rw [guardK_cases] | rw [condK_bool] | rw [guardD_cases]); split <;> simp only [c42, rSlot, h86, c1, c2, evX, Int.reduceEq, Int.reduceLT, Int.reduceLE, Nat.reduceMul, Nat.reduceMod, evW, evR, Nat.reduceAdd, Nat.reduceLT, Nat.reduceLeDiff, reduceIte, Nat.reduceEqDiff, reduceCtorEq, argEnv, eq_self, if_true, if_false, *])
      simp [slotB]; omega
    by_cases c3 : x.out < -1
    · simp only [c42, rSlot, h86, c1, c2, c3, evX, Int.reduceEq, Int.reduceLT, Int.reduceLE, Nat.reduceMul, Nat.reduceMod, evW, fn_eq, evR, Nat.reduceAdd, Nat.reduceLT, Nat.reduceLeDiff, reduceIte, Nat.reduceEqDiff, reduceCtorEq, argEnv, eq_self, if_true, if_false]
      repeat' ((first | rw [guardK_cases] | rw [condK_bool] | rw [guardD_cases]); split <;> simp only [c42, rSlot, h86, c1, c2, c3, evX, Int.reduceEq, Int.reduceLT, Int.reduceLE, Nat.reduceMul, Nat.reduceMod, evW, evR, Nat.reduceAdd, Nat.reduceLT, Nat.reduceLeDiff, reduceIte, Nat.reduceEqDiff, reduceCtorEq, argEnv, eq_self, if_true, if_false, *])
      simp [slotB]; omega
    by_cases c4 : 3 < x.out
    · simp only [c42, rSlot, h86, c1, c2, c3, c4, evX, Int.reduceEq, Int.reduceLT, Int.reduceLE, Nat.reduceMul, Nat.reduceMod, evW, fn_eq, evR, Nat.reduceAdd, Nat.reduceLT, Nat.reduceLeDiff, reduceIte, Nat.reduceEqDiff, reduceCtorEq, argEnv, eq_self, if_true, if_false]
      repeat' ((first | rw [guardK_cases] | rw [condK_bool] | rw [guardD_cases]); split <;> simp only [c42, rSlot, h86, c1, c2, c3, c4, evX, Int.reduceEq, Int.reduceLT, Int.reduceLE, Nat.reduceMul, Nat.reduceMod, evW, evR, Nat.reduceAdd, Nat.reduceLT, Nat.reduceLeDiff, reduceIte, Nat.reduceEqDiff, reduceCtorEq, argEnv, eq_self, if_true, if_false, *])
      simp [slotB]; omega
    by_cases c5 : (x.fill.toNat : Int) < 32
    · simp only [c42, rSlot, h86, c1, c2, c3, c4, c5, evX, Int.reduceEq, Int.reduceLT, Int.reduceLE, Nat.reduceMul, Nat.reduceMod, evW, fn_eq, evR, Nat.reduceAdd, Nat.reduceLT, Nat.reduceLeDiff, reduceIte, Nat.reduceEqDiff, reduceCtorEq, argEnv, eq_self, if_true, if_false]
      repeat' ((first | rw [guardK_cases] | rw [condK_bool] | rw [guardD_cases]); split <;> simp only [c42, rSlot, h86, c1, c2, c3, c4, c5, evX, Int.reduceEq, Int.reduceLT, Int.reduceLE, Nat.reduceMul, Nat.reduceMod, evW, evR, Nat.reduceAdd, Nat.reduceLT, Nat.reduceLeDiff, reduceIte, Nat.reduceEqDiff, reduceCtorEq, argEnv, eq_self, if_true, if_false, *])
      simp [slotB, okB]; omega
    by_cases c6 : (126 : Int) < (x.fill.toNat : Int)
    · simp only [c42, rSlot, h86, c1, c2, c3, c4, c5, c6, evX, Int.reduceEq, Int.reduceLT, Int.reduceLE, Nat.reduceMul, Nat.reduceMod, evW, fn_eq, evR, Nat.reduceAdd, Nat.reduceLT, Nat.reduceLeDiff, reduceIte, Nat.reduceEqDiff, reduceCtorEq, argEnv, eq_self, if_true, if_false]
      repeat' ((first | rw [guardK_cases] | rw [condK_bool] | rw [guardD_cases]); split <;> simp only [c42, rSlot, h86, c1, c2, c3, c4, c5, c6, evX, Int.reduceEq, Int.reduceLT, Int.reduceLE, Nat.reduceMul, Nat.reduceMod, evW, evR, Nat.reduceAdd, Nat.reduceLT, Nat.reduceLeDiff, reduceIte, Nat.reduceEqDiff, reduceCtorEq, argEnv, eq_self, if_true, if_false, *])
      simp [slotB, okB]; omega
    have hB : slotB x = true := by simp [slotB, okB, hn]; omega
    rw [hB, Bool.true_and]
    have hs : ∀ X, (H ++ ([bSlot x] ++ X))[H.length]? = some (bSlot x) := fun X => by simp
    simp only [bSlot, rSlot] at hs
    simp only [c42, rSlot, h86, c1, c2, c3, c4, c5, c6, evX, Int.reduceEq, Int.reduceLT, Int.reduceLE, Nat.reduceMul, Nat.reduceMod, evW, fn_eq, evR, Nat.reduceAdd, Nat.reduceLT, Nat.reduceLeDiff, reduceIte, Nat.reduceEqDiff, reduceCtorEq, argEnv, eq_self, if_true, if_false]
    repeat' ((first | rw [guardK_cases] | rw [condK_bool] | rw [guardD_cases]); split <;> simp only [c42, rSlot, h86, c1, c2, c3, c4, c5, c6, evX, Int.reduceEq, Int.reduceLT, Int.reduceLE, Nat.reduceMul, Nat.reduceMod, evW, evR, Nat.reduceAdd, Nat.reduceLT, Nat.reduceLeDiff, reduceIte, Nat.reduceEqDiff, reduceCtorEq, argEnv, eq_self, if_true, if_false, *])
    clear c1 c2 c3 c4 c5 c6 h86
    generalize hz : itLim _ _ = z
    have L := all_rule l (fun y => !clash x y) [0, 3, 5] (fun i => [(0, eSlots l), (3, .ptr H.length 0 7 0 0), (5, .int .i64 (i : Int))]) H [bSlot x] (evCode (evC cprog) itLim c42_l0) (fun c T => c = .exit 0) (fun c T => c = .ret ∧ get T 4 = some (.bool false))
      (fun i y hy E G hE => by
        have hlt : i < l.length := (List.getElem?_eq_some_iff.1 hy).1
        have hi : (i : Int) < (l.length : Int) := by omega
        have ha := aSlot hy
        simp only [c42_l0, hE, bSlot, rSlot, hi, hlen, hs, ha, wrapS hlt hl, evX, Int.reduceEq, Int.reduceLT, Int.reduceLE, Nat.reduceMul, Nat.reduceMod, evW, fn_eq, evR, Nat.reduceAdd, Nat.reduceLT, Nat.reduceLeDiff, reduceIte, Nat.reduceEqDiff, reduceCtorEq, argEnv, eq_self, if_true, if_false]
        repeat' ((first | rw [guardK_cases] | rw [condK_bool] | rw [guardD_cases]); split <;> simp only [c42_l0, hE, bSlot, rSlot, hi, hlen, hs, ha, wrapS hlt hl, evX, Int.reduceEq, Int.reduceLT, Int.reduceLE, Nat.reduceMul, Nat.reduceMod, evW, evR, Nat.reduceAdd, Nat.reduceLT, Nat.reduceLeDiff, reduceIte, Nat.reduceEqDiff, reduceCtorEq, argEnv, eq_self, if_true, if_false, *])
        all_goals first | exact Sc.next (by first | (simp_all [clash]; done) | (simp_all [clash]; intros; omega)) (by rfl) | exact Sc.ret (by first | (simp_all [clash]; done) | (simp_all [clash]; intros; omega)) ⟨rfl, by first | rfl | exact ⟨rfl, rfl, rfl⟩⟩ | exact Sc.exit (by first | (simp_all [clash]; done) | (simp_all [clash]; intros; omega)) ⟨rfl, rfl⟩)
      (fun E G hE => by
        simp only [c42_l0, hE, hlen, Int.lt_irrefl, evX, Int.reduceEq, Int.reduceLT, Int.reduceLE, Nat.reduceMul, Nat.reduceMod, evW, fn_eq, evR, Nat.reduceAdd, Nat.reduceLT, Nat.reduceLeDiff, reduceIte, Nat.reduceEqDiff, reduceCtorEq, argEnv, eq_self, if_true, if_false]
        repeat' ((first | rw [guardK_cases] | rw [condK_bool] | rw [guardD_cases]); split <;> simp only [c42_l0, hE, hlen, Int.lt_irrefl, evX, Int.reduceEq, Int.reduceLT, Int.reduceLE, Nat.reduceMul, Nat.reduceMod, evW, evR, Nat.reduceAdd, Nat.reduceLT, Nat.reduceLeDiff, reduceIte, Nat.reduceEqDiff, reduceCtorEq, argEnv, eq_self, if_true, if_false, *])
        exact .exit (K := [bSlot x]) rfl) _ [] (by rfl) (by simp [bSlot, rSlot]) z hz
    have hany : (l.all fun y => !clash x y) = !(l.any (clash x)) := by rw [List.not_any_eq_all_not]
    rcases L with ⟨ha, c, T, G, rfl, _, rfl⟩ | ⟨ha, c, T, G, rfl, _, rfl, hT⟩
    · rw [← hany, ha]
      simp only [evX, Int.reduceEq, Int.reduceLT, Int.reduceLE, Nat.reduceMul, Nat.reduceMod, evW, fn_eq, evR, Nat.reduceAdd, Nat.reduceLT, Nat.reduceLeDiff, reduceIte, Nat.reduceEqDiff, reduceCtorEq, argEnv, eq_self, if_true, if_false]
      repeat' ((first | rw [guardK_cases] | rw [condK_bool] | rw [guardD_cases]); split <;> simp only [evX, Int.reduceEq, Int.reduceLT, Int.reduceLE, Nat.reduceMul, Nat.reduceMod, evW, evR, Nat.reduceAdd, Nat.reduceLT, Nat.reduceLeDiff, reduceIte, Nat.reduceEqDiff, reduceCtorEq, argEnv, eq_self, if_true, if_false, *])
    · rw [← hany, ha]
      simp only [hT, evX, Int.reduceEq, Int.reduceLT, Int.reduceLE, Nat.reduceMul, Nat.reduceMod, evW, fn_eq, evR, Nat.reduceAdd, Nat.reduceLT, Nat.reduceLeDiff, reduceIte, Nat.reduceEqDiff, reduceCtorEq, argEnv, eq_self, if_true, if_false]
      repeat' ((first | rw [guardK_cases] | rw [condK_bool] | rw [guardD_cases]); split <;> simp only [hT, evX, Int.reduceEq, Int.reduceLT, Int.reduceLE, Nat.reduceMul, Nat.reduceMod, evW, evR, Nat.reduceAdd, Nat.reduceLT, Nat.reduceLeDiff, reduceIte, Nat.reduceEqDiff, reduceCtorEq, argEnv, eq_self, if_true, if_false, *])
def markS (m : Mark) : Span := ⟨m.row, m.col, (m.text.size : Int)⟩
def slotS (s : Slot) : Span := ⟨s.row, s.col, s.bytes⟩
def spansOf (f : Form) : List Span := f.marks.map markS ++ f.slots.map slotS
theorem gath_single {α β : Type} (g : α → β) : ∀ (l : List α) (k : Nat), gath (fun _ x => [g x]) k l = l.map g
  | [], _ => rfl
  | x :: l, k => by rw [gath, gath_single g l (k + 1)]; rfl
set_option maxHeartbeats 4000000 in
theorem f43 (f : Form) (h1 : f.marks.length ≤ 1000) (h2 : f.slots.length ≤ 1000) (H : Heap) : cal (evC cprog) true 43 [eForm f] H = some (eSpans (spansOf f), H) := by
  rw [cal_of at43]
  have hl1 := (sMarks [] f.marks).len
  have hl2 := (sSlots [] f.slots).len
  simp only [List.length_map] at hl1 hl2
  obtain ⟨K, hK⟩ : ∃ K : Heap, K = H ++ [bForm f] := ⟨_, rfl⟩
  have kt : ∀ Z, (K ++ Z).take H.length = H := fun Z => by rw [hK]; simp
  have kl : K.length = H.length + 1 := by rw [hK]; simp
  have kb : ∀ Z, (K ++ Z)[H.length]? = some (bForm f) := fun Z => by rw [hK]; simp
  simp only [bForm] at kb
  have L := fun (st : St) (hE : keepEnv st.1 [1, 3, 4] = [(1, .ptr H.length 0 4 0 0), (3, .nils), (4, .int .i64 0)]) (hH : st.2 = K) (z : Option (CX × St)) (hz : itLim (evCode (evC cprog) itLim c43_l0) st = z) =>
    gath_rule f.marks (fun _ m => [markS m]) rSpan [1, 3, 4] (fun i rv => [(1, .ptr H.length 0 4 0 0), (3, rv), (4, .int .i64 (i : Int))]) K 3 95 (evCode (evC cprog) itLim c43_l0) 0 [1, 3] (fun rv => [(1, .ptr H.length 0 4 0 0), (3, rv)])
    (fun i m hx E X rv hE hO => by
      have hlt : i < f.marks.length := (List.getElem?_eq_some_iff.1 hx).1
      have hi : (i : Int) < (f.marks.length : Int) := by omega
      have ha := aMark hx
      have hw := wrapS hlt (by omega)
      rw [gath_single] at hO
      obtain ⟨rv1, X1, a1, a2, a3, _⟩ := app_row hO K rfl 24 (rSpan (markS m)) rfl (by simp only [List.length_map, List.length_take, reach]; omega)
      simp only [rSpan, markS] at a1
      simp only [c43_l0, hE, hi, hl1, ha, rMark, kb, a1, a2, hw, evX, Int.reduceEq, Int.reduceLT, Int.reduceLE, Nat.reduceMul, Nat.reduceMod, evW, fn_eq, evR, Nat.reduceAdd, Nat.reduceLT, Nat.reduceLeDiff, reduceIte, Nat.reduceEqDiff, reduceCtorEq, argEnv, eq_self, if_true, if_false]
      repeat' ((first | rw [guardK_cases] | rw [condK_bool] | rw [guardD_cases]); split <;> simp only [c43_l0, hE, hi, hl1, ha, rMark, kb, a1, a2, hw, evX, Int.reduceEq, Int.reduceLT, Int.reduceLE, Nat.reduceMul, Nat.reduceMod, evW, evR, Nat.reduceAdd, Nat.reduceLT, Nat.reduceLeDiff, reduceIte, Nat.reduceEqDiff, reduceCtorEq, argEnv, eq_self, if_true, if_false, *])
      exact ⟨_, _, _, rfl, by rfl, by rw [gath_single]; simpa [rSpan, markS] using a3⟩)
    (fun E X rv hE => by
      simp only [c43_l0, hE, hl1, kb, Int.lt_irrefl, evX, Int.reduceEq, Int.reduceLT, Int.reduceLE, Nat.reduceMul, Nat.reduceMod, evW, fn_eq, evR, Nat.reduceAdd, Nat.reduceLT, Nat.reduceLeDiff, reduceIte, Nat.reduceEqDiff, reduceCtorEq, argEnv, eq_self, if_true, if_false]
      repeat' ((first | rw [guardK_cases] | rw [condK_bool] | rw [guardD_cases]); split <;> simp only [c43_l0, hE, hl1, kb, Int.lt_irrefl, evX, Int.reduceEq, Int.reduceLT, Int.reduceLE, Nat.reduceMul, Nat.reduceMod, evW, evR, Nat.reduceAdd, Nat.reduceLT, Nat.reduceLeDiff, reduceIte, Nat.reduceEqDiff, reduceCtorEq, argEnv, eq_self, if_true, if_false, *])
      exact ⟨_, rfl, by rfl⟩) st [] .nils (.nils ..) hE (by simpa using hH) z hz
  have M := fun (X0 : Heap) (rv0 : AV) (h0 : Out K.length 3 95 X0 rv0 ((f.marks.map markS).map rSpan)) (st : St) (hE : keepEnv st.1 [1, 3, 5] = [(1, .ptr H.length 0 4 0 0), (3, rv0), (5, .int .i64 0)]) (hH : st.2 = K ++ X0) (z : Option (CX × St)) (hz : itLim (evCode (evC cprog) itLim c43_l1) st = z) =>
    gath_pre f.slots (fun _ m => [slotS m]) rSpan ((f.marks.map markS).map rSpan) [1, 3, 5] (fun i rv => [(1, .ptr H.length 0 4 0 0), (3, rv), (5, .int .i64 (i : Int))]) K 3 95 (evCode (evC cprog) itLim c43_l1) 2 [3] (fun rv => [(3, rv)])
    (fun i m hx E X rv hE hO => by
      have hlt : i < f.slots.length := (List.getElem?_eq_some_iff.1 hx).1
      have hi : (i : Int) < (f.slots.length : Int) := by omega
      have ha := aSlot hx
      have hw := wrapS hlt (by omega)
      rw [gath_single] at hO
      obtain ⟨rv1, X1, a1, a2, a3, _⟩ := app_row hO K rfl 24 (rSpan (slotS m)) rfl (by simp only [List.length_append, List.length_map, List.length_take, reach]; omega)
      simp only [rSpan, slotS] at a1
      simp only [c43_l1, hE, hi, hl2, ha, rSlot, kb, a1, a2, hw, evX, Int.reduceEq, Int.reduceLT, Int.reduceLE, Nat.reduceMul, Nat.reduceMod, evW, fn_eq, evR, Nat.reduceAdd, Nat.reduceLT, Nat.reduceLeDiff, reduceIte, Nat.reduceEqDiff, reduceCtorEq, argEnv, eq_self, if_true, if_false]
      repeat' ((first | rw [guardK_cases] | rw [condK_bool] | rw [guardD_cases]); split <;> simp only [c43_l1, hE, hi, hl2, ha, rSlot, kb, a1, a2, hw, evX, Int.reduceEq, Int.reduceLT, Int.reduceLE, Nat.reduceMul, Nat.reduceMod, evW, evR, Nat.reduceAdd, Nat.reduceLT, Nat.reduceLeDiff, reduceIte, Nat.reduceEqDiff, reduceCtorEq, argEnv, eq_self, if_true, if_false, *])
      exact ⟨_, _, _, rfl, by rfl, by rw [gath_single]; simpa [rSpan, slotS] using a3⟩)
    (fun E X rv hE => by
      simp only [c43_l1, hE, hl2, kb, Int.lt_irrefl, evX, Int.reduceEq, Int.reduceLT, Int.reduceLE, Nat.reduceMul, Nat.reduceMod, evW, fn_eq, evR, Nat.reduceAdd, Nat.reduceLT, Nat.reduceLeDiff, reduceIte, Nat.reduceEqDiff, reduceCtorEq, argEnv, eq_self, if_true, if_false]
      repeat' ((first | rw [guardK_cases] | rw [condK_bool] | rw [guardD_cases]); split <;> simp only [c43_l1, hE, hl2, kb, Int.lt_irrefl, evX, Int.reduceEq, Int.reduceLT, Int.reduceLE, Nat.reduceMul, Nat.reduceMod, evW, evR, Nat.reduceAdd, Nat.reduceLT, Nat.reduceLeDiff, reduceIte, Nat.reduceEqDiff, reduceCtorEq, argEnv, eq_self, if_true, if_false, *])
      exact ⟨_, rfl, by rfl⟩) st X0 rv0 h0 hE hH z hz
  simp only [c43, eForm, evX, Int.reduceEq, Int.reduceLT, Int.reduceLE, Nat.reduceMul, Nat.reduceMod, evW, fn_eq, evR, Nat.reduceAdd, Nat.reduceLT, Nat.reduceLeDiff, reduceIte, Nat.reduceEqDiff, reduceCtorEq, argEnv, eq_self, if_true, if_false]
  repeat' ((first | rw [guardK_cases] | rw [condK_bool] | rw [guardD_cases]); split <;> simp only [c43, eForm, evX, Int.reduceEq, Int.reduceLT, Int.reduceLE, Nat.reduceMul, Nat.reduceMod, evW, evR, Nat.reduceAdd, Nat.reduceLT, Nat.reduceLeDiff, reduceIte, Nat.reduceEqDiff, reduceCtorEq, argEnv, eq_self, if_true, if_false, *])
  generalize hz : itLim _ _ = z
  obtain ⟨T, X, rv, rfl, hT, hO⟩ := L _ (by rfl) (by rw [hK]; rfl) z hz
  clear hz L
  rw [gath_single] at hO
  simp only [hT, evX, Int.reduceEq, Int.reduceLT, Int.reduceLE, Nat.reduceMul, Nat.reduceMod, evW, fn_eq, evR, Nat.reduceAdd, Nat.reduceLT, Nat.reduceLeDiff, reduceIte, Nat.reduceEqDiff, reduceCtorEq, argEnv, eq_self, if_true, if_false]
  repeat' ((first | rw [guardK_cases] | rw [condK_bool] | rw [guardD_cases]); split <;> simp only [hT, evX, Int.reduceEq, Int.reduceLT, Int.reduceLE, Nat.reduceMul, Nat.reduceMod, evW, evR, Nat.reduceAdd, Nat.reduceLT, Nat.reduceLeDiff, reduceIte, Nat.reduceEqDiff, reduceCtorEq, argEnv, eq_self, if_true, if_false, *])
  generalize hz : itLim _ _ = z
  obtain ⟨T, X, rv, rfl, hT, hO⟩ := M X rv hO _ (by rfl) rfl z hz
  clear hz M
  rw [gath_single, ← List.map_append] at hO
  obtain ⟨ids, g1, g2, g3⟩ := fz_out' hO K rfl (plain_spans _)
  have ht := kt X
  have hsc := out_tup hO
  generalize K ++ X = Z at *
  simp only [hT, hsc, evX, Int.reduceEq, Int.reduceLT, Int.reduceLE, Nat.reduceMul, Nat.reduceMod, evW, fn_eq, evR, Nat.reduceAdd, Nat.reduceLT, Nat.reduceLeDiff, reduceIte, Nat.reduceEqDiff, reduceCtorEq, argEnv, eq_self, if_true, if_false]
  repeat' ((first | rw [guardK_cases] | rw [condK_bool] | rw [guardD_cases]); split <;> simp only [hT, hsc, evX, Int.reduceEq, Int.reduceLT, Int.reduceLE, Nat.reduceMul, Nat.reduceMod, evW, evR, Nat.reduceAdd, Nat.reduceLT, Nat.reduceLeDiff, reduceIte, Nat.reduceEqDiff, reduceCtorEq, argEnv, eq_self, if_true, if_false, *])
  exact frz_one g1 g3 ht (fun k hk => by have := g2 k hk; omega)
def liesOk (f : Form) (x : Span) : Bool := decide (0 ≤ x.row) && decide (x.row < f.rows) && decide (0 ≤ x.col) && decide (x.col < f.cols) && decide (1 ≤ x.n) && decide (x.n ≤ f.cols - x.col)
def meets (a b : Span) : Bool := decide (a.row = b.row) && decide (a.col < b.col + b.n) && decide (b.col < a.col + a.n)
def spanOk (f : Form) (l : List Span) (i : Nat) (x : Span) : Bool := liesOk f x && !((l.take i).any fun y => meets y x)
def sizeOk (f : Form) : Bool := decide (1 ≤ f.rows) && decide (f.rows ≤ 12) && decide (10 ≤ f.cols) && decide (f.cols ≤ 40) && decide ((f.marks.length : Int) ≤ 8) && decide ((f.slots.length : Int) ≤ 10)
noncomputable def formOk (f : Form) : Bool := sizeOk f && f.marks.all (fun m => isText m.text) && tell (∀ (i : Nat) (x : Slot), f.slots[i]? = some x → slotOk f.slots i x = true) && tell (∀ (i : Nat) (x : Span), (spansOf f)[i]? = some x → spanOk f (spansOf f) i x = true)
theorem lies_at {f : Form} (hs : f.cols ≤ 40) {x : Span} (h : liesOk f x = true) : 0 ≤ x.col ∧ x.col < 40 ∧ 1 ≤ x.n ∧ x.n ≤ 40 ∧ x.col + x.n ≤ f.cols ∧ 0 ≤ x.row ∧ x.row < f.rows := by
  simp only [liesOk, Bool.and_eq_true, decide_eq_true_eq] at h
  omega
theorem wrapA {a c : Int} (h1 : 0 ≤ a) (h2 : 0 ≤ c) (h3 : a ≤ 1000000) (h4 : c ≤ 1000000) : IntKind.i64.wrap (a + c) = a + c := wrap_i64 (by omega) (by omega)
set_option maxHeartbeats 4000000 in
theorem l8_2 (f : Form) (hc : f.cols ≤ 40) (l : List Span) (i : Nat) (x : Span) (hx : l[i]? = some x) (hlx : liesOk f x = true) (hpre : ∀ j y, j < i → l[j]? = some y → liesOk f y = true) (hl : l.length ≤ 1000) (n : Nat) (H : Heap) (st : St) (G : Heap)
    (hE : keepEnv st.1 [1, 5, 6, 7] = [(1, .ptr n 0 4 0 0), (5, eSpans l), (6, .int .i64 (i : Int)), (7, .int .i64 0)]) (hH : st.2 = H ++ ([] ++ G)) (z : Option (CX × St)) (hz : itLim (evCode (evC cprog) itLim c8_l2) st = z) :
    ((l.take i).any (fun y => meets y x) = false ∧ Lv H [] (fun c T => c = .exit 6 ∧ keepEnv T [1, 5, 6] = [(1, .ptr n 0 4 0 0), (5, eSpans l), (6, .int .i64 (i : Int))]) z) ∨
    ((l.take i).any (fun y => meets y x) = true ∧ Lv H [] (fun c T => c = .ret ∧ get T 2 = some (.bool false)) z) := by
  have hil := (List.getElem?_eq_some_iff.1 hx).1
  have hax := aSpan hx
  obtain ⟨x1, x2, x3, x4, _⟩ := lies_at hc hlx
  have hwx := wrapA x1 (show 0 ≤ x.n by omega) (by omega) (by omega)
  have L := all_rule (l.take i) (fun y => !meets y x) [1, 5, 6, 7] (fun k => [(1, .ptr n 0 4 0 0), (5, eSpans l), (6, .int .i64 (i : Int)), (7, .int .i64 (k : Int))]) H [] (evCode (evC cprog) itLim c8_l2)
    (fun c T => c = .exit 6 ∧ keepEnv T [1, 5, 6] = [(1, .ptr n 0 4 0 0), (5, eSpans l), (6, .int .i64 (i : Int))]) (fun c T => c = .ret ∧ get T 2 = some (.bool false))
    (fun k y hy E G hE => by
      have hk : k < i := by have := (List.getElem?_eq_some_iff.1 hy).1; rw [List.length_take] at this; omega
      rw [List.getElem?_take, if_pos hk] at hy
      have hki : (k : Int) < (i : Int) := by omega
      have ha := aSpan hy
      obtain ⟨y1, y2, y3, y4, _⟩ := lies_at hc (hpre k y hk hy)
      have hwy := wrapA y1 (show 0 ≤ y.n by omega) (by omega) (by omega)
      have hw := wrapS hk (by omega)
      clear x1 x2 x3 x4 y1 y2 y3 y4
      by_cases c1 : y.row = x.row
      · have c1' : (y.row = x.row) = True := eq_true c1
        by_cases c2 : y.col < x.col + x.n
        · by_cases c3 : x.col < y.col + y.n
          · have hm : meets y x = true := by simp [meets, c1, c2, c3]
            rw [hm]
            clear c1 hm
            simp only [c8_l2, hE, hki, ha, hax, rSpan, hwx, hwy, c1', c2, c3, evX, Int.reduceEq, Int.reduceLT, Int.reduceLE, Nat.reduceMul, Nat.reduceMod, evW, fn_eq, evR, Nat.reduceAdd, Nat.reduceLT, Nat.reduceLeDiff, reduceIte, Nat.reduceEqDiff, reduceCtorEq, argEnv, eq_self, if_true, if_false]
            repeat' ((first | rw [guardK_cases] | rw [condK_bool] | rw [guardD_cases]); split <;> simp only [c8_l2, hE, hki, ha, hax, rSpan, hwx, hwy, c1', c2, c3, evX, Int.reduceEq, Int.reduceLT, Int.reduceLE, Nat.reduceMul, Nat.reduceMod, evW, evR, Nat.reduceAdd, Nat.reduceLT, Nat.reduceLeDiff, reduceIte, Nat.reduceEqDiff, reduceCtorEq, argEnv, eq_self, if_true, if_false, *])
            exact Sc.ret rfl ⟨rfl, rfl⟩
          · have hm : meets y x = false := by simp [meets, c3]
            rw [hm]
            clear c1 hm
            simp only [c8_l2, hE, hki, ha, hax, rSpan, hwx, hwy, c1', c2, c3, hw, evX, Int.reduceEq, Int.reduceLT, Int.reduceLE, Nat.reduceMul, Nat.reduceMod, evW, fn_eq, evR, Nat.reduceAdd, Nat.reduceLT, Nat.reduceLeDiff, reduceIte, Nat.reduceEqDiff, reduceCtorEq, argEnv, eq_self, if_true, if_false]
            repeat' ((first | rw [guardK_cases] | rw [condK_bool] | rw [guardD_cases]); split <;> simp only [c8_l2, hE, hki, ha, hax, rSpan, hwx, hwy, c1', c2, c3, hw, evX, Int.reduceEq, Int.reduceLT, Int.reduceLE, Nat.reduceMul, Nat.reduceMod, evW, evR, Nat.reduceAdd, Nat.reduceLT, Nat.reduceLeDiff, reduceIte, Nat.reduceEqDiff, reduceCtorEq, argEnv, eq_self, if_true, if_false, *])
            exact Sc.next rfl (by rfl)
        · have hm : meets y x = false := by simp [meets, c2]
          rw [hm]
          clear c1 hm
          simp only [c8_l2, hE, hki, ha, hax, rSpan, hwx, hwy, c1', c2, hw, evX, Int.reduceEq, Int.reduceLT, Int.reduceLE, Nat.reduceMul, Nat.reduceMod, evW, fn_eq, evR, Nat.reduceAdd, Nat.reduceLT, Nat.reduceLeDiff, reduceIte, Nat.reduceEqDiff, reduceCtorEq, argEnv, eq_self, if_true, if_false]
          repeat' ((first | rw [guardK_cases] | rw [condK_bool] | rw [guardD_cases]); split <;> simp only [c8_l2, hE, hki, ha, hax, rSpan, hwx, hwy, c1', c2, hw, evX, Int.reduceEq, Int.reduceLT, Int.reduceLE, Nat.reduceMul, Nat.reduceMod, evW, evR, Nat.reduceAdd, Nat.reduceLT, Nat.reduceLeDiff, reduceIte, Nat.reduceEqDiff, reduceCtorEq, argEnv, eq_self, if_true, if_false, *])
          exact Sc.next rfl (by rfl)
      · have hm : meets y x = false := by simp [meets, c1]
        have c1' : (y.row = x.row) = False := eq_false c1
        rw [hm]
        clear c1 hm
        simp only [c8_l2, hE, hki, ha, hax, rSpan, c1', hw, evX, Int.reduceEq, Int.reduceLT, Int.reduceLE, Nat.reduceMul, Nat.reduceMod, evW, fn_eq, evR, Nat.reduceAdd, Nat.reduceLT, Nat.reduceLeDiff, reduceIte, Nat.reduceEqDiff, reduceCtorEq, argEnv, eq_self, if_true, if_false]
        repeat' ((first | rw [guardK_cases] | rw [condK_bool] | rw [guardD_cases]); split <;> simp only [c8_l2, hE, hki, ha, hax, rSpan, c1', hw, evX, Int.reduceEq, Int.reduceLT, Int.reduceLE, Nat.reduceMul, Nat.reduceMod, evW, evR, Nat.reduceAdd, Nat.reduceLT, Nat.reduceLeDiff, reduceIte, Nat.reduceEqDiff, reduceCtorEq, argEnv, eq_self, if_true, if_false, *])
        exact Sc.next rfl (by rfl))
    (fun E G hE => by
      rw [List.length_take, Nat.min_eq_left (by omega)] at hE
      simp only [c8_l2, hE, Int.lt_irrefl, evX, Int.reduceEq, Int.reduceLT, Int.reduceLE, Nat.reduceMul, Nat.reduceMod, evW, fn_eq, evR, Nat.reduceAdd, Nat.reduceLT, Nat.reduceLeDiff, reduceIte, Nat.reduceEqDiff, reduceCtorEq, argEnv, eq_self, if_true, if_false]
      repeat' ((first | rw [guardK_cases] | rw [condK_bool] | rw [guardD_cases]); split <;> simp only [c8_l2, hE, Int.lt_irrefl, evX, Int.reduceEq, Int.reduceLT, Int.reduceLE, Nat.reduceMul, Nat.reduceMod, evW, evR, Nat.reduceAdd, Nat.reduceLT, Nat.reduceLeDiff, reduceIte, Nat.reduceEqDiff, reduceCtorEq, argEnv, eq_self, if_true, if_false, *])
      exact .exit (K := []) ⟨rfl, by rfl⟩) st G hE hH z hz
  have hany : ((l.take i).all fun y => !meets y x) = !((l.take i).any fun y => meets y x) := by rw [List.not_any_eq_all_not]
  rcases L with ⟨h, L⟩ | ⟨h, L⟩
  · exact .inl ⟨by rw [hany] at h; simpa using h, L⟩
  · exact .inr ⟨by rw [hany] at h; simpa using h, L⟩
end Go.Proofs.Ytondenmkhfignaa.Code

/- screen: which forms are valid, as the document asks: the whole. -/
set_option linter.unusedSimpArgs false
set_option linter.unusedVariables false
namespace Go.Proofs.Ytondenmkhfignaa.Code
open Go.Proofs.Ytondenmkhfignaa.Ev

set_option maxHeartbeats 8000000 in
theorem l8_3 (f : Form) (hc : f.cols ≤ 40) (l : List Span) (hl : l.length ≤ 1000) (n : Nat) (H : Heap) (hn : Sits H n (bForm f)) (st : St) (G : Heap) (hE : keepEnv st.1 [1, 5, 6] = [(1, .ptr n 0 4 0 0), (5, eSpans l), (6, .int .i64 0)]) (hH : st.2 = H ++ ([] ++ G)) (z : Option (CX × St)) (hz : itLim (evCode (evC cprog) itLim c8_l3) st = z) :
    (tell (∀ (i : Nat) (x : Span), l[i]? = some x → spanOk f l i x = true) = true ∧ Lv H [] (fun c T => c = .exit 4) z) ∨ (tell (∀ (i : Nat) (x : Span), l[i]? = some x → spanOk f l i x = true) = false ∧ Lv H [] (fun c T => c = .ret ∧ get T 2 = some (.bool false)) z) := by
  have hlen := (sSpans [] l).len
  simp only [List.length_map] at hlen
  have hs := hn
  simp only [bForm, Sits] at hs
  have L := scan_pre l (spanOk f l) [1, 5, 6] (fun i => [(1, .ptr n 0 4 0 0), (5, eSpans l), (6, .int .i64 (i : Int))]) H [] (evCode (evC cprog) itLim c8_l3) (fun c T => c = .exit 4) (fun _ _ c T => c = .ret ∧ get T 2 = some (.bool false))
    (fun i x hx hpre E G hE => by
      have hlt : i < l.length := (List.getElem?_eq_some_iff.1 hx).1
      have hi : (i : Int) < (l.length : Int) := by omega
      have ha := aSpan hx
      have bad : liesOk f x = false → spanOk f l i x = false := fun h => by unfold spanOk; rw [h]; rfl
      by_cases c1 : x.row < 0
      · rw [bad (by simp [liesOk]; omega)]
        simp only [c8_l3, hE, hi, hlen, hs, ha, rSpan, c1, evX, Int.reduceEq, Int.reduceLT, Int.reduceLE, Nat.reduceMul, Nat.reduceMod, evW, fn_eq, evR, Nat.reduceAdd, Nat.reduceLT, Nat.reduceLeDiff, reduceIte, Nat.reduceEqDiff, reduceCtorEq, argEnv, eq_self, if_true, if_false]
        repeat' ((first | rw [guardK_cases] | rw [condK_bool] | rw [guardD_cases]); split <;> simp only [c8_l3, hE, hi, hlen, hs, ha, rSpan, c1, evX, Int.reduceEq, Int.reduceLT, Int.reduceLE, Nat.reduceMul, Nat.reduceMod, evW, evR, Nat.reduceAdd, Nat.reduceLT, Nat.reduceLeDiff, reduceIte, Nat.reduceEqDiff, reduceCtorEq, argEnv, eq_self, if_true, if_false, *])
        exact Sc.ret rfl ⟨rfl, rfl⟩
      by_cases c2 : f.rows ≤ x.row
      · rw [bad (by simp [liesOk]; omega)]
        simp only [c8_l3, hE, hi, hlen, hs, ha, rSpan, c1, c2, evX, Int.reduceEq, Int.reduceLT, Int.reduceLE, Nat.reduceMul, Nat.reduceMod, evW, fn_eq, evR, Nat.reduceAdd, Nat.reduceLT, Nat.reduceLeDiff, reduceIte, Nat.reduceEqDiff, reduceCtorEq, argEnv, eq_self, if_true, if_false]
        repeat' ((first | rw [guardK_cases] | rw [condK_bool] | rw [guardD_cases]); split <;> simp only [c8_l3, hE, hi, hlen, hs, ha, rSpan, c1, c2, evX, Int.reduceEq, Int.reduceLT, Int.reduceLE, Nat.reduceMul, Nat.reduceMod, evW, evR, Nat.reduceAdd, Nat.reduceLT, Nat.reduceLeDiff, reduceIte, Nat.reduceEqDiff, reduceCtorEq, argEnv, eq_self, if_true, if_false, *])
        exact Sc.ret rfl ⟨rfl, rfl⟩
      by_cases c3 : x.col < 0
      · rw [bad (by simp [liesOk]; omega)]
        simp only [c8_l3, hE, hi, hlen, hs, ha, rSpan, c1, c2, c3, evX, Int.reduceEq, Int.reduceLT, Int.reduceLE, Nat.reduceMul, Nat.reduceMod, evW, fn_eq, evR, Nat.reduceAdd, Nat.reduceLT, Nat.reduceLeDiff, reduceIte, Nat.reduceEqDiff, reduceCtorEq, argEnv, eq_self, if_true, if_false]
        repeat' ((first | rw [guardK_cases] | rw [condK_bool] | rw [guardD_cases]); split <;> simp only [c8_l3, hE, hi, hlen, hs, ha, rSpan, c1, c2, c3, evX, Int.reduceEq, Int.reduceLT, Int.reduceLE, Nat.reduceMul, Nat.reduceMod, evW, evR, Nat.reduceAdd, Nat.reduceLT, Nat.reduceLeDiff, reduceIte, Nat.reduceEqDiff, reduceCtorEq, argEnv, eq_self, if_true, if_false, *])
        exact Sc.ret rfl ⟨rfl, rfl⟩
      by_cases c4 : f.cols ≤ x.col
      · rw [bad (by simp [liesOk]; omega)]
        simp only [c8_l3, hE, hi, hlen, hs, ha, rSpan, c1, c2, c3, c4, evX, Int.reduceEq, Int.reduceLT, Int.reduceLE, Nat.reduceMul, Nat.reduceMod, evW, fn_eq, evR, Nat.reduceAdd, Nat.reduceLT, Nat.reduceLeDiff, reduceIte, Nat.reduceEqDiff, reduceCtorEq, argEnv, eq_self, if_true, if_false]
        repeat' ((first | rw [guardK_cases] | rw [condK_bool] | rw [guardD_cases]); split <;> simp only [c8_l3, hE, hi, hlen, hs, ha, rSpan, c1, c2, c3, c4, evX, Int.reduceEq, Int.reduceLT, Int.reduceLE, Nat.reduceMul, Nat.reduceMod, evW, evR, Nat.reduceAdd, Nat.reduceLT, Nat.reduceLeDiff, reduceIte, Nat.reduceEqDiff, reduceCtorEq, argEnv, eq_self, if_true, if_false, *])
        exact Sc.ret rfl ⟨rfl, rfl⟩
      by_cases c5 : x.n < 1
      · rw [bad (by simp [liesOk]; omega)]
        simp only [c8_l3, hE, hi, hlen, hs, ha, rSpan, c1, c2, c3, c4, c5, evX, Int.reduceEq, Int.reduceLT, Int.reduceLE, Nat.reduceMul, Nat.reduceMod, evW, fn_eq, evR, Nat.reduceAdd, Nat.reduceLT, Nat.reduceLeDiff, reduceIte, Nat.reduceEqDiff, reduceCtorEq, argEnv, eq_self, if_true, if_false]
        repeat' ((first | rw [guardK_cases] | rw [condK_bool] | rw [guardD_cases]); split <;> simp only [c8_l3, hE, hi, hlen, hs, ha, rSpan, c1, c2, c3, c4, c5, evX, Int.reduceEq, Int.reduceLT, Int.reduceLE, Nat.reduceMul, Nat.reduceMod, evW, evR, Nat.reduceAdd, Nat.reduceLT, Nat.reduceLeDiff, reduceIte, Nat.reduceEqDiff, reduceCtorEq, argEnv, eq_self, if_true, if_false, *])
        exact Sc.ret rfl ⟨rfl, rfl⟩
      have hw : IntKind.i64.wrap (f.cols - x.col) = f.cols - x.col := wrap_i64 (by omega) (by omega)
      by_cases c6 : f.cols - x.col < x.n
      · rw [bad (by simp [liesOk]; omega)]
        simp only [c8_l3, hE, hi, hlen, hs, ha, rSpan, c1, c2, c3, c4, c5, hw, c6, evX, Int.reduceEq, Int.reduceLT, Int.reduceLE, Nat.reduceMul, Nat.reduceMod, evW, fn_eq, evR, Nat.reduceAdd, Nat.reduceLT, Nat.reduceLeDiff, reduceIte, Nat.reduceEqDiff, reduceCtorEq, argEnv, eq_self, if_true, if_false]
        repeat' ((first | rw [guardK_cases] | rw [condK_bool] | rw [guardD_cases]); split <;> simp only [c8_l3, hE, hi, hlen, hs, ha, rSpan, c1, c2, c3, c4, c5, hw, c6, evX, Int.reduceEq, Int.reduceLT, Int.reduceLE, Nat.reduceMul, Nat.reduceMod, evW, evR, Nat.reduceAdd, Nat.reduceLT, Nat.reduceLeDiff, reduceIte, Nat.reduceEqDiff, reduceCtorEq, argEnv, eq_self, if_true, if_false, *])
        exact Sc.ret rfl ⟨rfl, rfl⟩
      have hok : liesOk f x = true := by simp [liesOk]; omega
      have hsp : spanOk f l i x = !((l.take i).any fun y => meets y x) := by unfold spanOk; rw [hok, Bool.true_and]
      rw [hsp]
      simp only [c8_l3, hE, hi, hlen, hs, ha, rSpan, c1, c2, c3, c4, c5, hw, c6, evX, Int.reduceEq, Int.reduceLT, Int.reduceLE, Nat.reduceMul, Nat.reduceMod, evW, fn_eq, evR, Nat.reduceAdd, Nat.reduceLT, Nat.reduceLeDiff, reduceIte, Nat.reduceEqDiff, reduceCtorEq, argEnv, eq_self, if_true, if_false]
      repeat' ((first | rw [guardK_cases] | rw [condK_bool] | rw [guardD_cases]); split <;> simp only [c8_l3, hE, hi, hlen, hs, ha, rSpan, c1, c2, c3, c4, c5, hw, c6, evX, Int.reduceEq, Int.reduceLT, Int.reduceLE, Nat.reduceMul, Nat.reduceMod, evW, evR, Nat.reduceAdd, Nat.reduceLT, Nat.reduceLeDiff, reduceIte, Nat.reduceEqDiff, reduceCtorEq, argEnv, eq_self, if_true, if_false, *])
      clear c1 c2 c3 c4 c5 c6 hw bad
      generalize hz : itLim _ _ = z
      rcases l8_2 f hc l i x hx hok (fun j y hj hy => by
        have := hpre j y hj hy
        simp only [spanOk, Bool.and_eq_true] at this
        exact this.1) hl n H _ G (by rfl) rfl z hz with ⟨g, c, T, G', rfl, _, rfl, hT⟩ | ⟨g, c, T, G', rfl, _, rfl, hT⟩
      · rw [g]
        simp only [hT, wrapS hlt (by omega), evX, Int.reduceEq, Int.reduceLT, Int.reduceLE, Nat.reduceMul, Nat.reduceMod, evW, fn_eq, evR, Nat.reduceAdd, Nat.reduceLT, Nat.reduceLeDiff, reduceIte, Nat.reduceEqDiff, reduceCtorEq, argEnv, eq_self, if_true, if_false]
        repeat' ((first | rw [guardK_cases] | rw [condK_bool] | rw [guardD_cases]); split <;> simp only [hT, wrapS hlt (by omega), evX, Int.reduceEq, Int.reduceLT, Int.reduceLE, Nat.reduceMul, Nat.reduceMod, evW, evR, Nat.reduceAdd, Nat.reduceLT, Nat.reduceLeDiff, reduceIte, Nat.reduceEqDiff, reduceCtorEq, argEnv, eq_self, if_true, if_false, *])
        exact Sc.next rfl (by rfl)
      · rw [g]
        simp only [hT, evX, Int.reduceEq, Int.reduceLT, Int.reduceLE, Nat.reduceMul, Nat.reduceMod, evW, fn_eq, evR, Nat.reduceAdd, Nat.reduceLT, Nat.reduceLeDiff, reduceIte, Nat.reduceEqDiff, reduceCtorEq, argEnv, eq_self, if_true, if_false]
        repeat' ((first | rw [guardK_cases] | rw [condK_bool] | rw [guardD_cases]); split <;> simp only [hT, evX, Int.reduceEq, Int.reduceLT, Int.reduceLE, Nat.reduceMul, Nat.reduceMod, evW, evR, Nat.reduceAdd, Nat.reduceLT, Nat.reduceLeDiff, reduceIte, Nat.reduceEqDiff, reduceCtorEq, argEnv, eq_self, if_true, if_false, *])
        exact Sc.ret rfl ⟨rfl, hT⟩)
    (fun _ E G hE => by
      simp only [c8_l3, hE, hlen, Int.lt_irrefl, evX, Int.reduceEq, Int.reduceLT, Int.reduceLE, Nat.reduceMul, Nat.reduceMod, evW, fn_eq, evR, Nat.reduceAdd, Nat.reduceLT, Nat.reduceLeDiff, reduceIte, Nat.reduceEqDiff, reduceCtorEq, argEnv, eq_self, if_true, if_false]
      repeat' ((first | rw [guardK_cases] | rw [condK_bool] | rw [guardD_cases]); split <;> simp only [c8_l3, hE, hlen, Int.lt_irrefl, evX, Int.reduceEq, Int.reduceLT, Int.reduceLE, Nat.reduceMul, Nat.reduceMod, evW, evR, Nat.reduceAdd, Nat.reduceLT, Nat.reduceLeDiff, reduceIte, Nat.reduceEqDiff, reduceCtorEq, argEnv, eq_self, if_true, if_false, *])
      exact .exit (K := []) rfl) st G hE hH z hz
  rcases L with ⟨ha, L⟩ | ⟨i, r, hx, ha, _, L⟩
  · exact .inl ⟨tell_pos ha, L⟩
  · exact .inr ⟨tell_neg (fun h => by rw [h i r hx] at ha; cases ha), L⟩
theorem l8_0 (f : Form) (hf : f.Ok) (n : Nat) (H : Heap) (hn : Sits H n (bForm f)) (st : St) (G : Heap) (hE : keepEnv st.1 [1, 3] = [(1, .ptr n 0 4 0 0), (3, .int .i64 0)]) (hH : st.2 = H ++ ([] ++ G)) (z : Option (CX × St)) (hz : itLim (evCode (evC cprog) itLim c8_l0) st = z) :
    (f.marks.all (fun m => isText m.text) = true ∧ Lv H [] (fun c T => c = .exit 0 ∧ keepEnv T [1] = [(1, .ptr n 0 4 0 0)]) z) ∨ (f.marks.all (fun m => isText m.text) = false ∧ Lv H [] (fun c T => c = .ret ∧ get T 2 = some (.bool false)) z) := by
  have hlen := (sMarks [] f.marks).len
  simp only [List.length_map] at hlen
  have hs := hn
  simp only [bForm, Sits] at hs
  exact all_rule f.marks _ [1, 3] (fun i => [(1, .ptr n 0 4 0 0), (3, .int .i64 (i : Int))]) H [] (evCode (evC cprog) itLim c8_l0) _ _
    (fun i m hx E G hE => by
      have hlt : i < f.marks.length := (List.getElem?_eq_some_iff.1 hx).1
      have hi : (i : Int) < (f.marks.length : Int) := by omega
      have ha := aMark hx
      have h41 := f41 m.text (hf.mark m (List.mem_of_getElem? hx))
      cases ht : isText m.text with
      | true =>
        simp only [ht] at h41
        simp only [c8_l0, hE, hi, hlen, hs, ha, rMark, h41, wrapS hlt hf.marks, evX, Int.reduceEq, Int.reduceLT, Int.reduceLE, Nat.reduceMul, Nat.reduceMod, evW, fn_eq, evR, Nat.reduceAdd, Nat.reduceLT, Nat.reduceLeDiff, reduceIte, Nat.reduceEqDiff, reduceCtorEq, argEnv, eq_self, if_true, if_false]
        repeat' ((first | rw [guardK_cases] | rw [condK_bool] | rw [guardD_cases]); split <;> simp only [c8_l0, hE, hi, hlen, hs, ha, rMark, h41, wrapS hlt hf.marks, evX, Int.reduceEq, Int.reduceLT, Int.reduceLE, Nat.reduceMul, Nat.reduceMod, evW, evR, Nat.reduceAdd, Nat.reduceLT, Nat.reduceLeDiff, reduceIte, Nat.reduceEqDiff, reduceCtorEq, argEnv, eq_self, if_true, if_false, *])
        exact Sc.next rfl (by rfl)
      | false =>
        simp only [ht] at h41
        simp only [c8_l0, hE, hi, hlen, hs, ha, rMark, h41, evX, Int.reduceEq, Int.reduceLT, Int.reduceLE, Nat.reduceMul, Nat.reduceMod, evW, fn_eq, evR, Nat.reduceAdd, Nat.reduceLT, Nat.reduceLeDiff, reduceIte, Nat.reduceEqDiff, reduceCtorEq, argEnv, eq_self, if_true, if_false]
        repeat' ((first | rw [guardK_cases] | rw [condK_bool] | rw [guardD_cases]); split <;> simp only [c8_l0, hE, hi, hlen, hs, ha, rMark, h41, evX, Int.reduceEq, Int.reduceLT, Int.reduceLE, Nat.reduceMul, Nat.reduceMod, evW, evR, Nat.reduceAdd, Nat.reduceLT, Nat.reduceLeDiff, reduceIte, Nat.reduceEqDiff, reduceCtorEq, argEnv, eq_self, if_true, if_false, *])
        exact Sc.ret rfl ⟨rfl, rfl⟩)
    (fun E G hE => by
      simp only [c8_l0, hE, hlen, hs, Int.lt_irrefl, evX, Int.reduceEq, Int.reduceLT, Int.reduceLE, Nat.reduceMul, Nat.reduceMod, evW, fn_eq, evR, Nat.reduceAdd, Nat.reduceLT, Nat.reduceLeDiff, reduceIte, Nat.reduceEqDiff, reduceCtorEq, argEnv, eq_self, if_true, if_false]
      repeat' ((first | rw [guardK_cases] | rw [condK_bool] | rw [guardD_cases]); split <;> simp only [c8_l0, hE, hlen, hs, Int.lt_irrefl, evX, Int.reduceEq, Int.reduceLT, Int.reduceLE, Nat.reduceMul, Nat.reduceMod, evW, evR, Nat.reduceAdd, Nat.reduceLT, Nat.reduceLeDiff, reduceIte, Nat.reduceEqDiff, reduceCtorEq, argEnv, eq_self, if_true, if_false, *])
      exact .exit (K := []) ⟨rfl, by rfl⟩) st G hE hH z hz
theorem l8_1 (f : Form) (hf : f.Ok) (n : Nat) (H : Heap) (hn : Sits H n (bForm f)) (st : St) (G : Heap) (hE : keepEnv st.1 [1, 4] = [(1, .ptr n 0 4 0 0), (4, .int .i64 0)]) (hH : st.2 = H ++ ([] ++ G)) (z : Option (CX × St)) (hz : itLim (evCode (evC cprog) itLim c8_l1) st = z) :
    (tell (∀ (i : Nat) (x : Slot), f.slots[i]? = some x → slotOk f.slots i x = true) = true ∧ Lv H [] (fun c T => c = .exit 2 ∧ keepEnv T [1] = [(1, .ptr n 0 4 0 0)]) z) ∨ (tell (∀ (i : Nat) (x : Slot), f.slots[i]? = some x → slotOk f.slots i x = true) = false ∧ Lv H [] (fun c T => c = .ret ∧ get T 2 = some (.bool false)) z) := by
  have hlen := (sSlots [] f.slots).len
  simp only [List.length_map] at hlen
  have hs := hn
  simp only [bForm, Sits] at hs
  have L := scan_rule f.slots (slotOk f.slots) [1, 4] (fun i => [(1, .ptr n 0 4 0 0), (4, .int .i64 (i : Int))]) H [] (evCode (evC cprog) itLim c8_l1) (fun c T => c = .exit 2 ∧ keepEnv T [1] = [(1, .ptr n 0 4 0 0)]) (fun _ _ c T => c = .ret ∧ get T 2 = some (.bool false))
    (fun i x hx E G hE => by
      have hlt : i < f.slots.length := (List.getElem?_eq_some_iff.1 hx).1
      have hi : (i : Int) < (f.slots.length : Int) := by omega
      have ha := aSlot hx
      have hsl := fun X => slcSlots X f.slots (show i ≤ f.slots.length by omega)
      have h42 := f42 (f.slots.take i) (by rw [List.length_take]; have := hf.slots; omega) x (hf.slot x (List.mem_of_getElem? hx))
      rw [show (slotB x && !((f.slots.take i).any (clash x))) = slotOk f.slots i x from rfl] at h42
      cases ht : slotOk f.slots i x with
      | true =>
        simp only [ht, rSlot] at h42
        simp only [c8_l1, hE, hi, hlen, hs, ha, rSlot, hsl, asNat_cast, h42, wrapS hlt hf.slots, evX, Int.reduceEq, Int.reduceLT, Int.reduceLE, Nat.reduceMul, Nat.reduceMod, evW, fn_eq, evR, Nat.reduceAdd, Nat.reduceLT, Nat.reduceLeDiff, reduceIte, Nat.reduceEqDiff, reduceCtorEq, argEnv, eq_self, if_true, if_false]
        repeat' ((first | rw [guardK_cases] | rw [condK_bool] | rw [guardD_cases]); split <;> simp only [c8_l1, hE, hi, hlen, hs, ha, rSlot, hsl, asNat_cast, h42, wrapS hlt hf.slots, evX, Int.reduceEq, Int.reduceLT, Int.reduceLE, Nat.reduceMul, Nat.reduceMod, evW, evR, Nat.reduceAdd, Nat.reduceLT, Nat.reduceLeDiff, reduceIte, Nat.reduceEqDiff, reduceCtorEq, argEnv, eq_self, if_true, if_false, *])
        exact Sc.next rfl (by rfl)
      | false =>
        simp only [ht, rSlot] at h42
        simp only [c8_l1, hE, hi, hlen, hs, ha, rSlot, hsl, asNat_cast, h42, evX, Int.reduceEq, Int.reduceLT, Int.reduceLE, Nat.reduceMul, Nat.reduceMod, evW, fn_eq, evR, Nat.reduceAdd, Nat.reduceLT, Nat.reduceLeDiff, reduceIte, Nat.reduceEqDiff, reduceCtorEq, argEnv, eq_self, if_true, if_false]
        repeat' ((first | rw [guardK_cases] | rw [condK_bool] | rw [guardD_cases]); split <;> simp only [c8_l1, hE, hi, hlen, hs, ha, rSlot, hsl, asNat_cast, h42, evX, Int.reduceEq, Int.reduceLT, Int.reduceLE, Nat.reduceMul, Nat.reduceMod, evW, evR, Nat.reduceAdd, Nat.reduceLT, Nat.reduceLeDiff, reduceIte, Nat.reduceEqDiff, reduceCtorEq, argEnv, eq_self, if_true, if_false, *])
        exact Sc.ret rfl ⟨rfl, rfl⟩)
    (fun E G hE => by
      simp only [c8_l1, hE, hlen, hs, Int.lt_irrefl, evX, Int.reduceEq, Int.reduceLT, Int.reduceLE, Nat.reduceMul, Nat.reduceMod, evW, fn_eq, evR, Nat.reduceAdd, Nat.reduceLT, Nat.reduceLeDiff, reduceIte, Nat.reduceEqDiff, reduceCtorEq, argEnv, eq_self, if_true, if_false]
      repeat' ((first | rw [guardK_cases] | rw [condK_bool] | rw [guardD_cases]); split <;> simp only [c8_l1, hE, hlen, hs, Int.lt_irrefl, evX, Int.reduceEq, Int.reduceLT, Int.reduceLE, Nat.reduceMul, Nat.reduceMod, evW, evR, Nat.reduceAdd, Nat.reduceLT, Nat.reduceLeDiff, reduceIte, Nat.reduceEqDiff, reduceCtorEq, argEnv, eq_self, if_true, if_false, *])
      exact .exit (K := []) ⟨rfl, by rfl⟩) st G hE hH z hz
  rcases L with ⟨ha, L⟩ | ⟨i, r, hx, ha, _, L⟩
  · exact .inl ⟨tell_pos ha, L⟩
  · exact .inr ⟨tell_neg (fun h => by rw [h i r hx] at ha; cases ha), L⟩
set_option maxHeartbeats 4000000 in
theorem f8 (f : Form) (hf : f.Ok) (H : Heap) : cal (evC cprog) false 8 [eForm f] H = some (.bool (formOk f), H) := by
  rw [cal_of at8]
  have hl1 := (sMarks [] f.marks).len
  have hl2 := (sSlots [] f.slots).len
  simp only [List.length_map] at hl1 hl2
  have bad : sizeOk f = false → formOk f = false := fun h => by unfold formOk; rw [h]; rfl
  by_cases c1 : f.rows < 1
  · rw [bad (by simp [sizeOk]; omega)]
    simp only [c8, eForm, c1, evX, Int.reduceEq, Int.reduceLT, Int.reduceLE, Nat.reduceMul, Nat.reduceMod, evW, fn_eq, evR, Nat.reduceAdd, Nat.reduceLT, Nat.reduceLeDiff, reduceIte, Nat.reduceEqDiff, reduceCtorEq, argEnv, eq_self, if_true, if_false]
    repeat' ((first | rw [guardK_cases] | rw [condK_bool] | rw [guardD_cases]); split <;> simp only [c8, eForm, c1, evX, Int.reduceEq, Int.reduceLT, Int.reduceLE, Nat.reduceMul, Nat.reduceMod, evW, evR, Nat.reduceAdd, Nat.reduceLT, Nat.reduceLeDiff, reduceIte, Nat.reduceEqDiff, reduceCtorEq, argEnv, eq_self, if_true, if_false, *])
  by_cases c2 : 12 < f.rows
  · rw [bad (by simp [sizeOk]; omega)]
    simp only [c8, eForm, c1, c2, evX, Int.reduceEq, Int.reduceLT, Int.reduceLE, Nat.reduceMul, Nat.reduceMod, evW, fn_eq, evR, Nat.reduceAdd, Nat.reduceLT, Nat.reduceLeDiff, reduceIte, Nat.reduceEqDiff, reduceCtorEq, argEnv, eq_self, if_true, if_false]
    repeat' ((first | rw [guardK_cases] | rw [condK_bool] | rw [guardD_cases]); split <;> simp only [c8, eForm, c1, c2, evX, Int.reduceEq, Int.reduceLT, Int.reduceLE, Nat.reduceMul, Nat.reduceMod, evW, evR, Nat.reduceAdd, Nat.reduceLT, Nat.reduceLeDiff, reduceIte, Nat.reduceEqDiff, reduceCtorEq, argEnv, eq_self, if_true, if_false, *])
  by_cases c3 : f.cols < 10
  · rw [bad (by simp [sizeOk]; omega)]
    simp only [c8, eForm, c1, c2, c3, evX, Int.reduceEq, Int.reduceLT, Int.reduceLE, Nat.reduceMul, Nat.reduceMod, evW, fn_eq, evR, Nat.reduceAdd, Nat.reduceLT, Nat.reduceLeDiff, reduceIte, Nat.reduceEqDiff, reduceCtorEq, argEnv, eq_self, if_true, if_false]
    repeat' ((first | rw [guardK_cases] | rw [condK_bool] | rw [guardD_cases]); split <;> simp only [c8, eForm, c1, c2, c3, evX, Int.reduceEq, Int.reduceLT, Int.reduceLE, Nat.reduceMul, Nat.reduceMod, evW, evR, Nat.reduceAdd, Nat.reduceLT, Nat.reduceLeDiff, reduceIte, Nat.reduceEqDiff, reduceCtorEq, argEnv, eq_self, if_true, if_false, *])
  by_cases c4 : 40 < f.cols
  · rw [bad (by simp [sizeOk]; omega)]
    simp only [c8, eForm, c1, c2, c3, c4, evX, Int.reduceEq, Int.reduceLT, Int.reduceLE, Nat.reduceMul, Nat.reduceMod, evW, fn_eq, evR, Nat.reduceAdd, Nat.reduceLT, Nat.reduceLeDiff, reduceIte, Nat.reduceEqDiff, reduceCtorEq, argEnv, eq_self, if_true, if_false]
    repeat' ((first | rw [guardK_cases] | rw [condK_bool] | rw [guardD_cases]); split <;> simp only [c8, eForm, c1, c2, c3, c4, evX, Int.reduceEq, Int.reduceLT, Int.reduceLE, Nat.reduceMul, Nat.reduceMod, evW, evR, Nat.reduceAdd, Nat.reduceLT, Nat.reduceLeDiff, reduceIte, Nat.reduceEqDiff, reduceCtorEq, argEnv, eq_self, if_true, if_false, *])
  by_cases c5 : (8 : Int) < (f.marks.length : Int)
  · rw [bad (by simp [sizeOk]; omega)]
    simp only [c8, eForm, c1, c2, c3, c4, hl1, c5, evX, Int.reduceEq, Int.reduceLT, Int.reduceLE, Nat.reduceMul, Nat.reduceMod, evW, fn_eq, evR, Nat.reduceAdd, Nat.reduceLT, Nat.reduceLeDiff, reduceIte, Nat.reduceEqDiff, reduceCtorEq, argEnv, eq_self, if_true, if_false]
    repeat' ((first | rw [guardK_cases] | rw [condK_bool] | rw [guardD_cases]); split <;> simp only [c8, eForm, c1, c2, c3, c4, hl1, c5, evX, Int.reduceEq, Int.reduceLT, Int.reduceLE, Nat.reduceMul, Nat.reduceMod, evW, evR, Nat.reduceAdd, Nat.reduceLT, Nat.reduceLeDiff, reduceIte, Nat.reduceEqDiff, reduceCtorEq, argEnv, eq_self, if_true, if_false, *])
  by_cases c6 : (10 : Int) < (f.slots.length : Int)
  · rw [bad (by simp [sizeOk]; omega)]
    simp only [c8, eForm, c1, c2, c3, c4, hl1, c5, hl2, c6, evX, Int.reduceEq, Int.reduceLT, Int.reduceLE, Nat.reduceMul, Nat.reduceMod, evW, fn_eq, evR, Nat.reduceAdd, Nat.reduceLT, Nat.reduceLeDiff, reduceIte, Nat.reduceEqDiff, reduceCtorEq, argEnv, eq_self, if_true, if_false]
    repeat' ((first | rw [guardK_cases] | rw [condK_bool] | rw [guardD_cases]); split <;> simp only [c8, eForm, c1, c2, c3, c4, hl1, c5, hl2, c6, evX, Int.reduceEq, Int.reduceLT, Int.reduceLE, Nat.reduceMul, Nat.reduceMod, evW, evR, Nat.reduceAdd, Nat.reduceLT, Nat.reduceLeDiff, reduceIte, Nat.reduceEqDiff, reduceCtorEq, argEnv, eq_self, if_true, if_false, *])
  have hsz : sizeOk f = true := by simp [sizeOk]; omega
  unfold formOk
  rw [hsz, Bool.true_and]
  simp only [c8, eForm, c1, c2, c3, c4, hl1, c5, hl2, c6, evX, Int.reduceEq, Int.reduceLT, Int.reduceLE, Nat.reduceMul, Nat.reduceMod, evW, fn_eq, evR, Nat.reduceAdd, Nat.reduceLT, Nat.reduceLeDiff, reduceIte, Nat.reduceEqDiff, reduceCtorEq, argEnv, eq_self, if_true, if_false]
  repeat' ((first | rw [guardK_cases] | rw [condK_bool] | rw [guardD_cases]); split <;> simp only [c8, eForm, c1, c2, c3, c4, hl1, c5, hl2, c6, evX, Int.reduceEq, Int.reduceLT, Int.reduceLE, Nat.reduceMul, Nat.reduceMod, evW, evR, Nat.reduceAdd, Nat.reduceLT, Nat.reduceLeDiff, reduceIte, Nat.reduceEqDiff, reduceCtorEq, argEnv, eq_self, if_true, if_false, *])
  have h43 := fun K => f43 f (by omega) (by omega) K
  simp only [eForm] at h43
  have hs : ∀ X, (H ++ ([bForm f] ++ X))[H.length]? = some (bForm f) := fun X => by simp
  have hspl : (spansOf f).length ≤ 1000 := by simp only [spansOf, List.length_append, List.length_map]; omega
  simp only [bForm] at hs
  generalize hz : itLim _ _ = z
  rcases l8_0 f hf H.length (H ++ [bForm f]) (.mk (by simp)) _ [] (by rfl) (by simp [bForm]) z hz with ⟨g, c, T, G, rfl, _, rfl, hT⟩ | ⟨g, c, T, G, rfl, _, rfl, hT⟩
  case inr =>
    rw [g]
    simp only [hT, evX, Int.reduceEq, Int.reduceLT, Int.reduceLE, Nat.reduceMul, Nat.reduceMod, evW, fn_eq, evR, Nat.reduceAdd, Nat.reduceLT, Nat.reduceLeDiff, reduceIte, Nat.reduceEqDiff, reduceCtorEq, argEnv, eq_self, if_true, if_false]
    repeat' ((first | rw [guardK_cases] | rw [condK_bool] | rw [guardD_cases]); split <;> simp only [hT, evX, Int.reduceEq, Int.reduceLT, Int.reduceLE, Nat.reduceMul, Nat.reduceMod, evW, evR, Nat.reduceAdd, Nat.reduceLT, Nat.reduceLeDiff, reduceIte, Nat.reduceEqDiff, reduceCtorEq, argEnv, eq_self, if_true, if_false, *])
  clear hz
  rw [g, Bool.true_and]
  simp only [hT, evX, Int.reduceEq, Int.reduceLT, Int.reduceLE, Nat.reduceMul, Nat.reduceMod, evW, fn_eq, evR, Nat.reduceAdd, Nat.reduceLT, Nat.reduceLeDiff, reduceIte, Nat.reduceEqDiff, reduceCtorEq, argEnv, eq_self, if_true, if_false]
  repeat' ((first | rw [guardK_cases] | rw [condK_bool] | rw [guardD_cases]); split <;> simp only [hT, evX, Int.reduceEq, Int.reduceLT, Int.reduceLE, Nat.reduceMul, Nat.reduceMod, evW, evR, Nat.reduceAdd, Nat.reduceLT, Nat.reduceLeDiff, reduceIte, Nat.reduceEqDiff, reduceCtorEq, argEnv, eq_self, if_true, if_false, *])
  generalize hz : itLim _ _ = z
  rcases l8_1 f hf H.length (H ++ [bForm f]) (.mk (by simp)) _ G (by rfl) (by simp) z hz with ⟨g, c, T, G, rfl, _, rfl, hT⟩ | ⟨g, c, T, G, rfl, _, rfl, hT⟩
  case inr =>
    rw [g]
    simp only [hT, evX, Int.reduceEq, Int.reduceLT, Int.reduceLE, Nat.reduceMul, Nat.reduceMod, evW, fn_eq, evR, Nat.reduceAdd, Nat.reduceLT, Nat.reduceLeDiff, reduceIte, Nat.reduceEqDiff, reduceCtorEq, argEnv, eq_self, if_true, if_false]
    repeat' ((first | rw [guardK_cases] | rw [condK_bool] | rw [guardD_cases]); split <;> simp only [hT, evX, Int.reduceEq, Int.reduceLT, Int.reduceLE, Nat.reduceMul, Nat.reduceMod, evW, evR, Nat.reduceAdd, Nat.reduceLT, Nat.reduceLeDiff, reduceIte, Nat.reduceEqDiff, reduceCtorEq, argEnv, eq_self, if_true, if_false, *])
  clear hz
  rw [g, Bool.true_and]
  simp only [hT, hs, bForm, h43, evX, Int.reduceEq, Int.reduceLT, Int.reduceLE, Nat.reduceMul, Nat.reduceMod, evW, fn_eq, evR, Nat.reduceAdd, Nat.reduceLT, Nat.reduceLeDiff, reduceIte, Nat.reduceEqDiff, reduceCtorEq, argEnv, eq_self, if_true, if_false]
  repeat' ((first | rw [guardK_cases] | rw [condK_bool] | rw [guardD_cases]); split <;> simp only [hT, hs, bForm, h43, evX, Int.reduceEq, Int.reduceLT, Int.reduceLE, Nat.reduceMul, Nat.reduceMod, evW, evR, Nat.reduceAdd, Nat.reduceLT, Nat.reduceLeDiff, reduceIte, Nat.reduceEqDiff, reduceCtorEq, argEnv, eq_self, if_true, if_false, *])
  generalize hz : itLim _ _ = z
  rcases l8_3 f (by omega) (spansOf f) hspl H.length (H ++ [bForm f]) (.mk (by simp)) _ G (by rfl) (by simp [bForm]) z hz with ⟨g, c, T, G, rfl, _, rfl⟩ | ⟨g, c, T, G, rfl, _, rfl, hT⟩
  · rw [g]
    simp only [evX, Int.reduceEq, Int.reduceLT, Int.reduceLE, Nat.reduceMul, Nat.reduceMod, evW, fn_eq, evR, Nat.reduceAdd, Nat.reduceLT, Nat.reduceLeDiff, reduceIte, Nat.reduceEqDiff, reduceCtorEq, argEnv, eq_self, if_true, if_false]
    repeat' ((first | rw [guardK_cases] | rw [condK_bool] | rw [guardD_cases]); split <;> simp only [evX, Int.reduceEq, Int.reduceLT, Int.reduceLE, Nat.reduceMul, Nat.reduceMod, evW, evR, Nat.reduceAdd, Nat.reduceLT, Nat.reduceLeDiff, reduceIte, Nat.reduceEqDiff, reduceCtorEq, argEnv, eq_self, if_true, if_false, *])
  · rw [g]
    simp only [hT, evX, Int.reduceEq, Int.reduceLT, Int.reduceLE, Nat.reduceMul, Nat.reduceMod, evW, fn_eq, evR, Nat.reduceAdd, Nat.reduceLT, Nat.reduceLeDiff, reduceIte, Nat.reduceEqDiff, reduceCtorEq, argEnv, eq_self, if_true, if_false]
    repeat' ((first | rw [guardK_cases] | rw [condK_bool] | rw [guardD_cases]); split <;> simp only [hT, evX, Int.reduceEq, Int.reduceLT, Int.reduceLE, Nat.reduceMul, Nat.reduceMod, evW, evR, Nat.reduceAdd, Nat.reduceLT, Nat.reduceLeDiff, reduceIte, Nat.reduceEqDiff, reduceCtorEq, argEnv, eq_self, if_true, if_false, *])
end Go.Proofs.Ytondenmkhfignaa.Code

/- screen: valid forms, as the program asks (where the document's answer is yes). -/
set_option linter.unusedSimpArgs false
set_option linter.unusedVariables false
namespace Go.Proofs.Ytondenmkhfignaa.Code
open Go.Proofs.Ytondenmkhfignaa.Ev

theorem out_take {n sz ty : Nat} {X : Heap} {rv : AV} {rows : List (List AV)} (h : Out n sz ty X rv rows) (H0 : Heap) (hn : n = H0.length) (hsz : ∀ r ∈ rows, r.length = sz) {k : Nat} (hk : k ≤ rows.length) :
    ∃ sv, sv.isTup = false ∧ (∀ Y, evSlc Y sz rv none (some k) none = some sv) ∧ ∀ Y, SlAt (H0 ++ (X ++ Y)) sz sv (rows.take k) := by
  subst hn
  rcases h with ⟨rfl, hrv⟩ | ⟨h1, j, v, rfl, h3⟩
  · have hk0 : k = 0 := by simpa using hk
    subst hk0
    exact ⟨rv, by rcases hrv with rfl | rfl <;> rfl, fun Y => by rcases hrv with rfl | rfl <;> rfl, fun Y => ⟨by rcases hrv with rfl | rfl <;> rfl, fun i row hi => by simp at hi⟩⟩
  · have hj := (List.getElem?_eq_some_iff.1 h3).1
    refine ⟨.ref (H0.length + j) v sz 0 k, rfl, fun Y => by simp [evSlc, hk], fun Y => ?_⟩
    have hl : (rows.take k).length = k := by rw [List.length_take]; omega
    have := SlAt.ref (H := H0 ++ (X ++ Y)) (sz := sz) (b := H0.length + j) (v := v) (off := 0) (rows := rows.take k) (k := ⟨v, true, ty, sz, rows⟩) (by simp [curBlk, at_app, List.getElem?_append_left hj, h3]) fun i row hi => by
      have hlt := (List.getElem?_eq_some_iff.1 hi).1
      rw [List.getElem?_take, if_pos (by omega)] at hi
      rw [Nat.zero_add]
      exact ⟨hsz row (List.mem_of_getElem? hi), hi⟩
    rwa [hl] at this
theorem f161 (n : Int) (h1 : -1 ≤ n) (h2 : n ≤ 3) (H : Heap) : cal (evC cprog) false 161 [.int .i64 n] H = some (.bool true, H) := by
  rw [cal_of at161]
  have h2' : n < 4 := by omega
  simp only [c161, h1, h2', evX, Int.reduceEq, Int.reduceLT, Int.reduceLE, Nat.reduceMul, Nat.reduceMod, evW, fn_eq, evR, Nat.reduceAdd, Nat.reduceLT, Nat.reduceLeDiff, reduceIte, Nat.reduceEqDiff, reduceCtorEq, argEnv, eq_self, if_true, if_false]
  repeat' ((first | rw [guardK_cases] | rw [condK_bool] | rw [guardD_cases]); split <;> simp only [c161, h1, h2', evX, Int.reduceEq, Int.reduceLT, Int.reduceLE, Nat.reduceMul, Nat.reduceMod, evW, evR, Nat.reduceAdd, Nat.reduceLT, Nat.reduceLeDiff, reduceIte, Nat.reduceEqDiff, reduceCtorEq, argEnv, eq_self, if_true, if_false, *])
theorem f163 (y x : Slot) (b : Nat) (H : Heap) (hb : H[b]? = some (bSlot x)) : cal (evC cprog) false 163 [.agg (rSlot y), .ptr b 0 7 0 0] H = some (.bool (clash x y), H) := by
  rw [cal_of at163]
  have hb' := Sits.mk hb
  simp only [bSlot, rSlot, Sits] at hb'
  simp only [c163, rSlot, hb', evX, Int.reduceEq, Int.reduceLT, Int.reduceLE, Nat.reduceMul, Nat.reduceMod, evW, fn_eq, evR, Nat.reduceAdd, Nat.reduceLT, Nat.reduceLeDiff, reduceIte, Nat.reduceEqDiff, reduceCtorEq, argEnv, eq_self, if_true, if_false]
  repeat' ((first | rw [guardK_cases] | rw [condK_bool] | rw [guardD_cases]); split <;> simp only [c163, rSlot, hb', evX, Int.reduceEq, Int.reduceLT, Int.reduceLE, Nat.reduceMul, Nat.reduceMod, evW, evR, Nat.reduceAdd, Nat.reduceLT, Nat.reduceLeDiff, reduceIte, Nat.reduceEqDiff, reduceCtorEq, argEnv, eq_self, if_true, if_false, *])
  all_goals (simp_all [clash]; try (intros; omega))
theorem f162 (l : List Slot) (hl : l.length < 9223372036854775807) (x : Slot) (b : Nat) (H : Heap) (hb : H[b]? = some (bSlot x)) : cal (evC cprog) false 162 [eSlots l, .fn 163 [.ptr b 0 7 0 0]] H = some (.bool (l.any (clash x)), H) :=
  containsFunc_ok (g := 100) at162 (indexFunc_ok (sz := 7) (ag := true) at100 _ _ lSlot 163 [_] _ H _ l (sSlots H l) hl fun y _ => f163 y x b H hb)
theorem slot_parts {l : List Slot} {i : Nat} {x : Slot} (h : slotOk l i x = true) : isName x.name = true ∧ -1 ≤ x.inn ∧ x.inn ≤ 3 ∧ -1 ≤ x.out ∧ x.out ≤ 3 ∧ okB x.fill = true ∧ (l.take i).any (clash x) = false := by
  simp only [slotOk, slotB, Bool.and_eq_true, decide_eq_true_eq, Bool.not_eq_true'] at h
  obtain ⟨⟨⟨⟨⟨⟨h1, h2⟩, h3⟩, h4⟩, h5⟩, h6⟩, h7⟩ := h
  exact ⟨h1, h2, h3, h4, h5, h6, h7⟩
set_option maxHeartbeats 4000000 in
theorem f93 (l : List Slot) (hl : (l.length : Int) ≤ 10) (hn : ∀ s ∈ l, s.name.size < 9223372036854775807) (hok : ∀ (i : Nat) (x : Slot), l[i]? = some x → slotOk l i x = true) (H : Heap) : cal (evC cprog) false 93 [eSlots l] H = some (.bool true, H) := by
  rw [cal_of at93]
  have hlen := (sSlots [] l).len
  simp only [List.length_map] at hlen
  simp only [c93, hlen, evX, Int.reduceEq, Int.reduceLT, Int.reduceLE, Nat.reduceMul, Nat.reduceMod, evW, fn_eq, evR, Nat.reduceAdd, Nat.reduceLT, Nat.reduceLeDiff, reduceIte, Nat.reduceEqDiff, reduceCtorEq, argEnv, eq_self, if_true, if_false]
  repeat' ((first | rw [guardK_cases] | rw [condK_bool] | rw [guardD_cases]); split <;> simp only [c93, hlen, evX, Int.reduceEq, Int.reduceLT, Int.reduceLE, Nat.reduceMul, Nat.reduceMod, evW, evR, Nat.reduceAdd, Nat.reduceLT, Nat.reduceLeDiff, reduceIte, Nat.reduceEqDiff, reduceCtorEq, argEnv, eq_self, if_true, if_false, *])
  generalize hz : itLim _ _ = z
  have L := all_rule l (fun _ => true) [0, 5, 6, 7] (fun i => [(0, eSlots l), (5, eSlots l), (6, .int .i64 (l.length : Int)), (7, .int .i64 (i : Int))]) H [] (evCode (evC cprog) itLim c93_l0) (fun c T => c = .exit 0 ∧ keepEnv T [0] = [(0, eSlots l)]) (fun c T => False)
    (fun i x hx E G hE => by
      have hlt : i < l.length := (List.getElem?_eq_some_iff.1 hx).1
      have hi : (i : Int) < (l.length : Int) := by omega
      have ha := aSlot hx
      obtain ⟨p1, p2, p3, p4, p5, p6, p7⟩ := slot_parts (hok i x hx)
      have h160 := f160 x.name (hn x (List.mem_of_getElem? hx))
      have h161a := f161 x.inn p2 p3
      have h161b := f161 x.out p4 p5
      have h153 := f153 x.fill
      have hsl := fun X => slcSlots X l (show i ≤ l.length by omega)
      have h162 := f162 (l.take i) (by rw [List.length_take]; omega) x (H ++ G).length (H ++ (G ++ [bSlot x])) (by rw [← List.append_assoc]; simp)
      rw [p7] at h162
      simp only [p1] at h160
      simp only [p6] at h153
      simp only [bSlot, rSlot, List.length_append] at h162
      clear p1 p2 p3 p4 p5 p6 p7
      simp only [c93_l0, hE, hi, ha, rSlot, h160, h161a, h161b, h153, hsl, asNat_cast, scal_ptr, h162, wrapS hlt (by omega), evX, Int.reduceEq, Int.reduceLT, Int.reduceLE, Nat.reduceMul, Nat.reduceMod, evW, fn_eq, evR, Nat.reduceAdd, Nat.reduceLT, Nat.reduceLeDiff, reduceIte, Nat.reduceEqDiff, reduceCtorEq, argEnv, eq_self, if_true, if_false]
      repeat' ((first | rw [guardK_cases] | rw [condK_bool] | rw [guardD_cases]); split <;> simp only [c93_l0, hE, hi, ha, rSlot, h160, h161a, h161b, h153, hsl, asNat_cast, scal_ptr, h162, wrapS hlt (by omega), evX, Int.reduceEq, Int.reduceLT, Int.reduceLE, Nat.reduceMul, Nat.reduceMod, evW, evR, Nat.reduceAdd, Nat.reduceLT, Nat.reduceLeDiff, reduceIte, Nat.reduceEqDiff, reduceCtorEq, argEnv, eq_self, if_true, if_false, *])
      exact Sc.next rfl (by rfl))
    (fun E G hE => by
      simp only [c93_l0, hE, Int.lt_irrefl, evX, Int.reduceEq, Int.reduceLT, Int.reduceLE, Nat.reduceMul, Nat.reduceMod, evW, fn_eq, evR, Nat.reduceAdd, Nat.reduceLT, Nat.reduceLeDiff, reduceIte, Nat.reduceEqDiff, reduceCtorEq, argEnv, eq_self, if_true, if_false]
      repeat' ((first | rw [guardK_cases] | rw [condK_bool] | rw [guardD_cases]); split <;> simp only [c93_l0, hE, Int.lt_irrefl, evX, Int.reduceEq, Int.reduceLT, Int.reduceLE, Nat.reduceMul, Nat.reduceMod, evW, evR, Nat.reduceAdd, Nat.reduceLT, Nat.reduceLeDiff, reduceIte, Nat.reduceEqDiff, reduceCtorEq, argEnv, eq_self, if_true, if_false, *])
      exact .exit (K := []) ⟨rfl, by rfl⟩) _ [] (by rfl) (by simp) z hz
  rcases L with ⟨ha, c, T, G, rfl, _, rfl, hT⟩ | ⟨ha, _⟩
  · simp only [hT, hlen, hl, evX, Int.reduceEq, Int.reduceLT, Int.reduceLE, Nat.reduceMul, Nat.reduceMod, evW, fn_eq, evR, Nat.reduceAdd, Nat.reduceLT, Nat.reduceLeDiff, reduceIte, Nat.reduceEqDiff, reduceCtorEq, argEnv, eq_self, if_true, if_false]
    repeat' ((first | rw [guardK_cases] | rw [condK_bool] | rw [guardD_cases]); split <;> simp only [hT, hlen, hl, evX, Int.reduceEq, Int.reduceLT, Int.reduceLE, Nat.reduceMul, Nat.reduceMod, evW, evR, Nat.reduceAdd, Nat.reduceLT, Nat.reduceLeDiff, reduceIte, Nat.reduceEqDiff, reduceCtorEq, argEnv, eq_self, if_true, if_false, *])
  · simp at ha
theorem f94 (f : Form) (hc : f.cols ≤ 40) (x : Span) (h : liesOk f x = true) (H : Heap) : cal (evC cprog) false 94 [eForm f, .int .i64 x.row, .int .i64 x.col, .int .i64 x.n] H = some (.bool true, H) := by
  rw [cal_of at94]
  simp only [liesOk, Bool.and_eq_true, decide_eq_true_eq] at h
  obtain ⟨⟨⟨⟨⟨h1, h2⟩, h3⟩, h4⟩, h5⟩, h6⟩ := h
  have hw : IntKind.i64.wrap (f.cols - x.col) = f.cols - x.col := wrap_i64 (by omega) (by omega)
  simp only [c94, eForm, h1, h2, h3, h4, h5, h6, hw, evX, Int.reduceEq, Int.reduceLT, Int.reduceLE, Nat.reduceMul, Nat.reduceMod, evW, fn_eq, evR, Nat.reduceAdd, Nat.reduceLT, Nat.reduceLeDiff, reduceIte, Nat.reduceEqDiff, reduceCtorEq, argEnv, eq_self, if_true, if_false]
  repeat' ((first | rw [guardK_cases] | rw [condK_bool] | rw [guardD_cases]); split <;> simp only [c94, eForm, h1, h2, h3, h4, h5, h6, hw, evX, Int.reduceEq, Int.reduceLT, Int.reduceLE, Nat.reduceMul, Nat.reduceMod, evW, evR, Nat.reduceAdd, Nat.reduceLT, Nat.reduceLeDiff, reduceIte, Nat.reduceEqDiff, reduceCtorEq, argEnv, eq_self, if_true, if_false, *])
theorem f96 (f : Form) (hc : f.cols ≤ 40) (x y : Span) (hx : liesOk f x = true) (hy : liesOk f y = true) (H : Heap) : cal (evC cprog) false 96 [.agg (rSpan x), .agg (rSpan y)] H = some (.bool (meets x y), H) := by
  rw [cal_of at96]
  obtain ⟨x1, x2, x3, x4, _⟩ := lies_at hc hx
  obtain ⟨y1, y2, y3, y4, _⟩ := lies_at hc hy
  have hwx := wrapA x1 (show 0 ≤ x.n by omega) (by omega) (by omega)
  have hwy := wrapA y1 (show 0 ≤ y.n by omega) (by omega) (by omega)
  clear x1 x2 x3 x4 y1 y2 y3 y4
  simp only [c96, rSpan, hwx, hwy, evX, Int.reduceEq, Int.reduceLT, Int.reduceLE, Nat.reduceMul, Nat.reduceMod, evW, fn_eq, evR, Nat.reduceAdd, Nat.reduceLT, Nat.reduceLeDiff, reduceIte, Nat.reduceEqDiff, reduceCtorEq, argEnv, eq_self, if_true, if_false]
  repeat' ((first | rw [guardK_cases] | rw [condK_bool] | rw [guardD_cases]); split <;> simp only [c96, rSpan, hwx, hwy, evX, Int.reduceEq, Int.reduceLT, Int.reduceLE, Nat.reduceMul, Nat.reduceMod, evW, evR, Nat.reduceAdd, Nat.reduceLT, Nat.reduceLeDiff, reduceIte, Nat.reduceEqDiff, reduceCtorEq, argEnv, eq_self, if_true, if_false, *])
  all_goals (simp_all [meets]; try (intros; omega))
theorem meets_comm (x y : Span) : meets x y = meets y x := by
  unfold meets
  rw [show decide (x.row = y.row) = decide (y.row = x.row) from decide_eq_decide.2 eq_comm, Bool.and_assoc, Bool.and_assoc, Bool.and_comm (decide (x.col < _))]
theorem f95 (f : Form) (hc : f.cols ≤ 40) (x : Span) (hx : liesOk f x = true) (l : List Span) (hl : l.length < 9223372036854775807) (hall : ∀ y ∈ l, liesOk f y = true) (a : AV) (H : Heap) (ha : SlAt H 3 a (l.map rSpan)) : cal (evC cprog) false 95 [a, .fn 96 [.tup [], .agg (rSpan x)]] H = some (.bool (l.any (meets x)), H) :=
  containsFunc_ok (g := 164) at95 (indexFunc_ok (sz := 3) (ag := true) at164 _ _ lSpan 96 _ _ H _ l ha hl fun y hy => f96 f hc x y hx (hall y hy) H)
end Go.Proofs.Ytondenmkhfignaa.Code

/- screen: valid forms are valid, as the program asks. -/
set_option linter.unusedSimpArgs false
set_option linter.unusedVariables false
namespace Go.Proofs.Ytondenmkhfignaa.Code
open Go.Proofs.Ytondenmkhfignaa.Ev

def bMark (m : Mark) : Blk := ⟨0, true, 87, 3, [rMark m]⟩
def bSpan (x : Span) : Blk := ⟨0, true, 156, 3, [rSpan x]⟩
/-- what is known of a valid form -/
structure FormG (f : Form) : Prop where
  ok : f.Ok
  rlo : 1 ≤ f.rows
  rhi : f.rows ≤ 12
  clo : 10 ≤ f.cols
  chi : f.cols ≤ 40
  nm : f.marks.length ≤ 8
  sl : f.slots.length ≤ 10
  txt : ∀ m ∈ f.marks, isText m.text = true
  slot : ∀ (i : Nat) (x : Slot), f.slots[i]? = some x → slotOk f.slots i x = true
  span : ∀ (i : Nat) (x : Span), (spansOf f)[i]? = some x → spanOk f (spansOf f) i x = true
theorem good_of {f : Form} (hf : f.Ok) (h : formOk f = true) : FormG f := by
  simp only [formOk, sizeOk, Bool.and_eq_true, decide_eq_true_eq] at h
  obtain ⟨⟨⟨⟨⟨⟨⟨⟨h1, h2⟩, h3⟩, h4⟩, h5⟩, h6⟩, h7⟩, h8⟩, h9⟩ := h
  exact ⟨hf, h1, h2, h3, h4, by omega, by omega, fun m hm => List.all_eq_true.1 h7 m hm, tell_true.1 h8, tell_true.1 h9⟩
theorem FormG.lies {f : Form} (h : FormG f) {x : Span} (hx : x ∈ spansOf f) : liesOk f x = true := by
  obtain ⟨i, hi⟩ := List.getElem?_of_mem hx
  have := h.span i x hi
  simp only [spanOk, Bool.and_eq_true] at this
  exact this.1
theorem FormG.markIn {f : Form} {m : Mark} (hm : m ∈ f.marks) : markS m ∈ spansOf f := List.mem_append_left _ (List.mem_map_of_mem hm)
theorem FormG.slotIn {f : Form} {m : Slot} (hm : m ∈ f.slots) : slotS m ∈ spansOf f := List.mem_append_right _ (List.mem_map_of_mem hm)
set_option maxHeartbeats 4000000 in
theorem l46_0 (f : Form) (g : FormG f) (n : Nat) (K : Heap) (hn : Sits K n (bForm f)) (st : St) (hE : keepEnv st.1 [1, 3, 41, 42, 43] = [(1, .ptr n 0 4 0 0), (3, .nils), (41, eMarks f.marks), (42, .int .i64 (f.marks.length : Int)), (43, .int .i64 0)]) (hH : st.2 = K ++ []) (z : Option (CX × St)) (hz : itLim (evCode (evC cprog) itLim c46_l0) st = z) :
    ∃ T X rv, z = some (.exit 0, T, K ++ X) ∧ keepEnv T [1, 3] = [(1, .ptr n 0 4 0 0), (3, rv)] ∧ Out K.length 3 156 X rv ((f.marks.map markS).map rSpan) := by
  have hs := hn
  simp only [bForm, Sits] at hs
  have hmk := g.nm
  obtain ⟨T, X, rv, h1, h2, h3⟩ := gath_rule f.marks (fun _ m => [markS m]) rSpan [1, 3, 41, 42, 43] (fun i rv => [(1, .ptr n 0 4 0 0), (3, rv), (41, eMarks f.marks), (42, .int .i64 (f.marks.length : Int)), (43, .int .i64 (i : Int))]) K 3 156 (evCode (evC cprog) itLim c46_l0) 0 [1, 3] (fun rv => [(1, .ptr n 0 4 0 0), (3, rv)])
    (fun i m hx E X rv hE hO => by
      have hm := List.mem_of_getElem? hx
      have hlt : i < f.marks.length := (List.getElem?_eq_some_iff.1 hx).1
      have hi : (i : Int) < (f.marks.length : Int) := by omega
      have ha := aMark hx
      have hw := wrapS hlt (by omega)
      rw [gath_single] at hO
      have h89 := f89 m.text (g.ok.mark m hm)
      rw [g.txt m hm] at h89
      have hl := g.lies (FormG.markIn hm)
      have h94 := f94 f g.chi (markS m) hl
      obtain ⟨_, _, _, h40, _⟩ := lies_at g.chi hl
      have h40' : ¬ (40 : Int) < (m.text.size : Int) := by simp only [markS] at h40; omega
      simp only [eForm, markS] at h94
      obtain ⟨rv1, X1, a1, a2, a3, _⟩ := app_row (hO.more [bMark m]) K rfl 24 (rSpan (markS m)) rfl (by simp only [List.length_map, List.length_take, reach]; omega)
      simp only [List.append_assoc, List.cons_append, List.nil_append, bMark, rMark, rSpan, markS, List.length_append, List.length_cons, List.length_nil, Nat.zero_add] at a1
      clear hl h40
      simp only [c46_l0, hE, hi, ha, rMark, hs, h40', h89, h94, a1, a2, hw, evX, Int.reduceEq, Int.reduceLT, Int.reduceLE, Nat.reduceMul, Nat.reduceMod, evW, fn_eq, evR, Nat.reduceAdd, Nat.reduceLT, Nat.reduceLeDiff, reduceIte, Nat.reduceEqDiff, reduceCtorEq, argEnv, eq_self, if_true, if_false]
      repeat' ((first | rw [guardK_cases] | rw [condK_bool] | rw [guardD_cases]); split <;> simp only [c46_l0, hE, hi, ha, rMark, hs, h40', h89, h94, a1, a2, hw, evX, Int.reduceEq, Int.reduceLT, Int.reduceLE, Nat.reduceMul, Nat.reduceMod, evW, evR, Nat.reduceAdd, Nat.reduceLT, Nat.reduceLeDiff, reduceIte, Nat.reduceEqDiff, reduceCtorEq, argEnv, eq_self, if_true, if_false, *])
      exact ⟨_, _, _, rfl, by rfl, by rw [gath_single]; simpa [rSpan, markS] using a3⟩)
    (fun E X rv hE => by
      simp only [c46_l0, hE, Int.lt_irrefl, evX, Int.reduceEq, Int.reduceLT, Int.reduceLE, Nat.reduceMul, Nat.reduceMod, evW, fn_eq, evR, Nat.reduceAdd, Nat.reduceLT, Nat.reduceLeDiff, reduceIte, Nat.reduceEqDiff, reduceCtorEq, argEnv, eq_self, if_true, if_false]
      repeat' ((first | rw [guardK_cases] | rw [condK_bool] | rw [guardD_cases]); split <;> simp only [c46_l0, hE, Int.lt_irrefl, evX, Int.reduceEq, Int.reduceLT, Int.reduceLE, Nat.reduceMul, Nat.reduceMod, evW, evR, Nat.reduceAdd, Nat.reduceLT, Nat.reduceLeDiff, reduceIte, Nat.reduceEqDiff, reduceCtorEq, argEnv, eq_self, if_true, if_false, *])
      exact ⟨_, rfl, by rfl⟩) st [] .nils (.nils ..) hE (by simpa using hH) z hz
  exact ⟨T, X, rv, h1, h2, by rwa [gath_single] at h3⟩
set_option maxHeartbeats 4000000 in
theorem l46_1 (f : Form) (g : FormG f) (n : Nat) (K : Heap) (hn : Sits K n (bForm f)) (X0 : Heap) (rv0 : AV) (h0 : Out K.length 3 156 X0 rv0 ((f.marks.map markS).map rSpan)) (st : St) (hE : keepEnv st.1 [1, 3, 82, 83, 84] = [(1, .ptr n 0 4 0 0), (3, rv0), (82, eSlots f.slots), (83, .int .i64 (f.slots.length : Int)), (84, .int .i64 0)]) (hH : st.2 = K ++ X0) (z : Option (CX × St)) (hz : itLim (evCode (evC cprog) itLim c46_l1) st = z) :
    ∃ T X rv, z = some (.exit 2, T, K ++ X) ∧ keepEnv T [3] = [(3, rv)] ∧ Out K.length 3 156 X rv ((spansOf f).map rSpan) := by
  have hs := hn
  simp only [bForm, Sits] at hs
  have hsl := g.sl
  have hmk := g.nm
  obtain ⟨T, X, rv, h1, h2, h3⟩ := gath_pre f.slots (fun _ m => [slotS m]) rSpan ((f.marks.map markS).map rSpan) [1, 3, 82, 83, 84] (fun i rv => [(1, .ptr n 0 4 0 0), (3, rv), (82, eSlots f.slots), (83, .int .i64 (f.slots.length : Int)), (84, .int .i64 (i : Int))]) K 3 156 (evCode (evC cprog) itLim c46_l1) 2 [3] (fun rv => [(3, rv)])
    (fun i m hx E X rv hE hO => by
      have hm := List.mem_of_getElem? hx
      have hlt : i < f.slots.length := (List.getElem?_eq_some_iff.1 hx).1
      have hi : (i : Int) < (f.slots.length : Int) := by omega
      have ha := aSlot hx
      have hw := wrapS hlt (by omega)
      rw [gath_single] at hO
      have h94 := f94 f g.chi (slotS m) (g.lies (FormG.slotIn hm))
      simp only [eForm, slotS] at h94
      obtain ⟨rv1, X1, a1, a2, a3, _⟩ := app_row (hO.more [bSlot m]) K rfl 24 (rSpan (slotS m)) rfl (by simp only [List.length_append, List.length_map, List.length_take, reach]; omega)
      simp only [List.append_assoc, List.cons_append, List.nil_append, bSlot, rSlot, rSpan, slotS, List.length_append, List.length_cons, List.length_nil, Nat.zero_add] at a1
      simp only [c46_l1, hE, hi, ha, rSlot, hs, h94, a1, a2, hw, evX, Int.reduceEq, Int.reduceLT, Int.reduceLE, Nat.reduceMul, Nat.reduceMod, evW, fn_eq, evR, Nat.reduceAdd, Nat.reduceLT, Nat.reduceLeDiff, reduceIte, Nat.reduceEqDiff, reduceCtorEq, argEnv, eq_self, if_true, if_false]
      repeat' ((first | rw [guardK_cases] | rw [condK_bool] | rw [guardD_cases]); split <;> simp only [c46_l1, hE, hi, ha, rSlot, hs, h94, a1, a2, hw, evX, Int.reduceEq, Int.reduceLT, Int.reduceLE, Nat.reduceMul, Nat.reduceMod, evW, evR, Nat.reduceAdd, Nat.reduceLT, Nat.reduceLeDiff, reduceIte, Nat.reduceEqDiff, reduceCtorEq, argEnv, eq_self, if_true, if_false, *])
      exact ⟨_, _, _, rfl, by rfl, by rw [gath_single]; simpa [rSpan, slotS] using a3⟩)
    (fun E X rv hE => by
      simp only [c46_l1, hE, Int.lt_irrefl, evX, Int.reduceEq, Int.reduceLT, Int.reduceLE, Nat.reduceMul, Nat.reduceMod, evW, fn_eq, evR, Nat.reduceAdd, Nat.reduceLT, Nat.reduceLeDiff, reduceIte, Nat.reduceEqDiff, reduceCtorEq, argEnv, eq_self, if_true, if_false]
      repeat' ((first | rw [guardK_cases] | rw [condK_bool] | rw [guardD_cases]); split <;> simp only [c46_l1, hE, Int.lt_irrefl, evX, Int.reduceEq, Int.reduceLT, Int.reduceLE, Nat.reduceMul, Nat.reduceMod, evW, evR, Nat.reduceAdd, Nat.reduceLT, Nat.reduceLeDiff, reduceIte, Nat.reduceEqDiff, reduceCtorEq, argEnv, eq_self, if_true, if_false, *])
      exact ⟨_, rfl, by rfl⟩) st X0 rv0 h0 hE hH z hz
  exact ⟨T, X, rv, h1, h2, by rwa [gath_single, ← List.map_append] at h3⟩
set_option maxHeartbeats 4000000 in
theorem l46_2 (f : Form) (g : FormG f) (K X0 : Heap) (rv : AV) (hO : Out K.length 3 156 X0 rv ((spansOf f).map rSpan)) (st : St) (hE : keepEnv st.1 [3, 108, 109, 110] = [(3, rv), (108, rv), (109, .int .i64 ((spansOf f).length : Int)), (110, .int .i64 0)]) (hH : st.2 = K ++ (X0 ++ [])) (z : Option (CX × St)) (hz : itLim (evCode (evC cprog) itLim c46_l2) st = z) :
    ∃ T G, z = some (.exit 4, T, K ++ (X0 ++ G)) := by
  have hspl : (spansOf f).length ≤ 1000 := by have := g.nm; have := g.sl; simp only [spansOf, List.length_append, List.length_map]; omega
  have hsl0 := fun Y => out_slat (hO.more Y) K rfl (fun r hr => by obtain ⟨_, _, rfl⟩ := List.mem_map.1 hr; rfl)
  have L := all_rule (spansOf f) (fun _ => true) [3, 108, 109, 110] (fun i => [(3, rv), (108, rv), (109, .int .i64 ((spansOf f).length : Int)), (110, .int .i64 (i : Int))]) K X0 (evCode (evC cprog) itLim c46_l2) (fun c T => c = .exit 4) (fun c T => False)
    (fun i x hx E G hE => by
      have hlt : i < (spansOf f).length := (List.getElem?_eq_some_iff.1 hx).1
      have hi : (i : Int) < ((spansOf f).length : Int) := by omega
      have hw := wrapS hlt (by omega)
      obtain ⟨sv, s1, s2, s3⟩ := out_take hO K rfl (fun r hr => by obtain ⟨_, _, rfl⟩ := List.mem_map.1 hr; rfl) (k := i) (by rw [List.length_map]; omega)
      obtain ⟨hrl, p, p1, p2⟩ := (hsl0 G).get i (rSpan x) (by rw [List.getElem?_map, hx]; rfl)
      have p3 := p2.agg (n := 3) rfl
      have hsp := g.span i x hx
      simp only [spanOk, Bool.and_eq_true, Bool.not_eq_true'] at hsp
      have hno : ((spansOf f).take i).any (meets x) = false := by
        rw [← hsp.2]
        congr 1
        funext y
        exact meets_comm x y
      have h95 := f95 f g.chi x hsp.1 ((spansOf f).take i) (by rw [List.length_take]; omega) (fun y hy => g.lies (List.mem_of_mem_take hy)) sv (K ++ (X0 ++ (G ++ [bSpan x]))) (by rw [← List.map_take] at s3; exact s3 _)
      rw [hno] at h95
      simp only [bSpan, rSpan, List.append_assoc] at h95 p3
      clear hsp hno
      simp only [c46_l2, hE, hi, p1, p3, rSpan, s1, s2, asNat_cast, h95, hw, evX, Int.reduceEq, Int.reduceLT, Int.reduceLE, Nat.reduceMul, Nat.reduceMod, evW, fn_eq, evR, Nat.reduceAdd, Nat.reduceLT, Nat.reduceLeDiff, reduceIte, Nat.reduceEqDiff, reduceCtorEq, argEnv, eq_self, if_true, if_false]
      repeat' ((first | rw [guardK_cases] | rw [condK_bool] | rw [guardD_cases]); split <;> simp only [c46_l2, hE, hi, p1, p3, rSpan, s1, s2, asNat_cast, h95, hw, evX, Int.reduceEq, Int.reduceLT, Int.reduceLE, Nat.reduceMul, Nat.reduceMod, evW, evR, Nat.reduceAdd, Nat.reduceLT, Nat.reduceLeDiff, reduceIte, Nat.reduceEqDiff, reduceCtorEq, argEnv, eq_self, if_true, if_false, *])
      exact Sc.next rfl (by rfl))
    (fun E G hE => by
      simp only [c46_l2, hE, Int.lt_irrefl, evX, Int.reduceEq, Int.reduceLT, Int.reduceLE, Nat.reduceMul, Nat.reduceMod, evW, fn_eq, evR, Nat.reduceAdd, Nat.reduceLT, Nat.reduceLeDiff, reduceIte, Nat.reduceEqDiff, reduceCtorEq, argEnv, eq_self, if_true, if_false]
      repeat' ((first | rw [guardK_cases] | rw [condK_bool] | rw [guardD_cases]); split <;> simp only [c46_l2, hE, Int.lt_irrefl, evX, Int.reduceEq, Int.reduceLT, Int.reduceLE, Nat.reduceMul, Nat.reduceMod, evW, evR, Nat.reduceAdd, Nat.reduceLT, Nat.reduceLeDiff, reduceIte, Nat.reduceEqDiff, reduceCtorEq, argEnv, eq_self, if_true, if_false, *])
      exact .exit (K := X0) rfl) st [] hE hH z hz
  rcases L with ⟨ha, c, T, G, rfl, _, rfl⟩ | ⟨ha, _⟩
  · exact ⟨T, G, rfl⟩
  · simp at ha
set_option maxHeartbeats 4000000 in
theorem f46 (f : Form) (g : FormG f) (H : Heap) : cal (evC cprog) false 46 [eForm f] H = some (.bool true, H) := by
  rw [cal_of at46]
  have hl1 := (sMarks [] f.marks).len
  have hl2 := (sSlots [] f.slots).len
  simp only [List.length_map] at hl1 hl2
  have c1 : ¬ f.rows < 1 := by have := g.rlo; omega
  have c2 : ¬ 12 < f.rows := by have := g.rhi; omega
  have c3 : ¬ f.cols < 10 := by have := g.clo; omega
  have c4 : ¬ 40 < f.cols := by have := g.chi; omega
  have c5 : ¬ (8 : Int) < (f.marks.length : Int) := by have := g.nm; omega
  have h93 := f93 f.slots (by have := g.sl; omega) g.ok.slot g.slot
  simp only [c46, eForm, c1, c2, c3, c4, hl1, c5, h93, evX, Int.reduceEq, Int.reduceLT, Int.reduceLE, Nat.reduceMul, Nat.reduceMod, evW, fn_eq, evR, Nat.reduceAdd, Nat.reduceLT, Nat.reduceLeDiff, reduceIte, Nat.reduceEqDiff, reduceCtorEq, argEnv, eq_self, if_true, if_false]
  repeat' ((first | rw [guardK_cases] | rw [condK_bool] | rw [guardD_cases]); split <;> simp only [c46, eForm, c1, c2, c3, c4, hl1, c5, h93, evX, Int.reduceEq, Int.reduceLT, Int.reduceLE, Nat.reduceMul, Nat.reduceMod, evW, evR, Nat.reduceAdd, Nat.reduceLT, Nat.reduceLeDiff, reduceIte, Nat.reduceEqDiff, reduceCtorEq, argEnv, eq_self, if_true, if_false, *])
  clear c1 c2 c3 c4 c5
  obtain ⟨K, hK⟩ : ∃ K : Heap, K = H ++ [bForm f] := ⟨_, rfl⟩
  have kt : ∀ Z, (K ++ Z).take H.length = H := fun Z => by rw [hK]; simp
  have kb : Sits K H.length (bForm f) := .mk (by rw [hK]; simp)
  have kb' := kb
  simp only [bForm, Sits] at kb'
  generalize hz : itLim _ _ = z
  obtain ⟨T, X, rv, rfl, hT, hO⟩ := l46_0 f g H.length K kb _ (by rfl) (by rw [hK]; simp [bForm]) z hz
  clear hz
  simp only [hT, kb', hl2, evX, Int.reduceEq, Int.reduceLT, Int.reduceLE, Nat.reduceMul, Nat.reduceMod, evW, fn_eq, evR, Nat.reduceAdd, Nat.reduceLT, Nat.reduceLeDiff, reduceIte, Nat.reduceEqDiff, reduceCtorEq, argEnv, eq_self, if_true, if_false]
  repeat' ((first | rw [guardK_cases] | rw [condK_bool] | rw [guardD_cases]); split <;> simp only [hT, kb', hl2, evX, Int.reduceEq, Int.reduceLT, Int.reduceLE, Nat.reduceMul, Nat.reduceMod, evW, evR, Nat.reduceAdd, Nat.reduceLT, Nat.reduceLeDiff, reduceIte, Nat.reduceEqDiff, reduceCtorEq, argEnv, eq_self, if_true, if_false, *])
  generalize hz : itLim _ _ = z
  obtain ⟨T, X, rv, rfl, hT, hO⟩ := l46_1 f g H.length K kb X rv hO _ (by rfl) rfl z hz
  clear hz
  have hol := out_len hO
  rw [List.length_map] at hol
  simp only [hT, hol, evX, Int.reduceEq, Int.reduceLT, Int.reduceLE, Nat.reduceMul, Nat.reduceMod, evW, fn_eq, evR, Nat.reduceAdd, Nat.reduceLT, Nat.reduceLeDiff, reduceIte, Nat.reduceEqDiff, reduceCtorEq, argEnv, eq_self, if_true, if_false]
  repeat' ((first | rw [guardK_cases] | rw [condK_bool] | rw [guardD_cases]); split <;> simp only [hT, hol, evX, Int.reduceEq, Int.reduceLT, Int.reduceLE, Nat.reduceMul, Nat.reduceMod, evW, evR, Nat.reduceAdd, Nat.reduceLT, Nat.reduceLeDiff, reduceIte, Nat.reduceEqDiff, reduceCtorEq, argEnv, eq_self, if_true, if_false, *])
  generalize hz : itLim _ _ = z
  obtain ⟨T, G, rfl⟩ := l46_2 f g K X rv hO _ (by rfl) (by simp) z hz
  have ht := kt (X ++ G)
  generalize K ++ (X ++ G) = Z at *
  simp only [evX, Int.reduceEq, Int.reduceLT, Int.reduceLE, Nat.reduceMul, Nat.reduceMod, evW, fn_eq, evR, Nat.reduceAdd, Nat.reduceLT, Nat.reduceLeDiff, reduceIte, Nat.reduceEqDiff, reduceCtorEq, argEnv, eq_self, if_true, if_false]
  repeat' ((first | rw [guardK_cases] | rw [condK_bool] | rw [guardD_cases]); split <;> simp only [evX, Int.reduceEq, Int.reduceLT, Int.reduceLE, Nat.reduceMul, Nat.reduceMod, evW, evR, Nat.reduceAdd, Nat.reduceLT, Nat.reduceLeDiff, reduceIte, Nat.reduceEqDiff, reduceCtorEq, argEnv, eq_self, if_true, if_false, *])
  all_goals exact gc_fall rfl ht
end Go.Proofs.Ytondenmkhfignaa.Code

/- screen: slices.Repeat of one element, strings.Repeat; lengths; what may be shown. -/
set_option linter.unusedSimpArgs false
set_option linter.unusedVariables false
namespace Go.Proofs.Ytondenmkhfignaa.Code
open Go.Proofs.Ytondenmkhfignaa.Ev

theorem fn_use {call it} {n : Nat} {res : List CRes} {p : List AV → Heap → Option (List AV × Heap)} (args : List AV) (H : Heap) : evFn call it ⟨n, res, .user p, false, false⟩ args H = bodyK res ((p args H).map fun r => (CX.ret, (argEnv 0 r.1, r.2))) := by
  rw [fn_eq]
  simp only [evCode, user_args]
def repB (c : UInt8) (n : Nat) : ByteArray := ⟨(List.replicate n c).toArray⟩
theorem repB_list (c : UInt8) (n : Nat) : (repB c n).data.toList = List.replicate n c := by simp [repB]
theorem repB_size (c : UInt8) (n : Nat) : (repB c n).size = n := by rw [← size_eq, repB_list, List.length_replicate]
theorem rptL_one (c : UInt8) : ∀ n, Lib.repeatL [c] n = List.replicate n c
  | 0 => rfl
  | n + 1 => by rw [Lib.repeatL, rptL_one c n]; rfl
theorem f91 (c : UInt8) (n : Nat) (hn : n ≤ 1000) (H : Heap) : cal (evC cprog) false 91 [.str ⟨#[c]⟩, .int .i64 (n : Int)] H = some (.str (repB c n), H) := by
  rw [cal_of at91, show c91 = ⟨0, [.t 0], .user pRpt, false, false⟩ from rfl, fn_use]
  have h : pRpt [.str ⟨#[c]⟩, .int .i64 (n : Int)] H = some ([.str (repB c n)], H) := by
    have h1 : (⟨#[c]⟩ : ByteArray).size = 1 := rfl
    have h2 : (⟨#[c]⟩ : ByteArray).data.toList = [c] := rfl
    simp only [pRpt, h1, h2, Int.toNat_natCast, rptL_one]
    rw [if_pos ⟨by omega, by omega, by omega⟩]
    rfl
  rw [h]
  simp only [evX, Int.reduceEq, Int.reduceLT, Int.reduceLE, Nat.reduceMul, Nat.reduceMod, evW, fn_eq, evR, Nat.reduceAdd, Nat.reduceLT, Nat.reduceLeDiff, reduceIte, Nat.reduceEqDiff, reduceCtorEq, argEnv, eq_self, if_true, if_false]
  repeat' ((first | rw [guardK_cases] | rw [condK_bool] | rw [guardD_cases]); split <;> simp only [evX, Int.reduceEq, Int.reduceLT, Int.reduceLE, Nat.reduceMul, Nat.reduceMod, evW, evR, Nat.reduceAdd, Nat.reduceLT, Nat.reduceLeDiff, reduceIte, Nat.reduceEqDiff, reduceCtorEq, argEnv, eq_self, if_true, if_false, *])
theorem u64_small (n : Nat) (h : n ≤ 12) : binK .and (some (.int .u64 (n : Int))) (some (.int .u64 4294967295)) = some (.int .u64 (n : Int)) ∧ binK .shr (some (.int .u64 (n : Int))) (some (.int .u64 32)) = some (.int .u64 0) := by
  have : n = 0 ∨ n = 1 ∨ n = 2 ∨ n = 3 ∨ n = 4 ∨ n = 5 ∨ n = 6 ∨ n = 7 ∨ n = 8 ∨ n = 9 ∨ n = 10 ∨ n = 11 ∨ n = 12 := by omega
  rcases this with rfl | rfl | rfl | rfl | rfl | rfl | rfl | rfl | rfl | rfl | rfl | rfl | rfl <;> exact ⟨rfl, rfl⟩
theorem wrapU {a : Int} (h0 : 0 ≤ a) (h1 : a ≤ 1000000) : IntKind.u64.wrap a = a := by
  simp only [IntKind.wrap]
  split <;> simp_all [IntKind.bits, IntKind.signed] <;> omega
theorem f191 (n : Nat) (h : n ≤ 12) (H : Heap) : cal (evC cprog) false 191 [.int .u64 1, .int .u64 (n : Int)] H = some (.tup [.int .u64 0, .int .u64 (n : Int)], H) := by
  rw [cal_of at191]
  obtain ⟨n1, n2⟩ := u64_small n h
  obtain ⟨o1, o2⟩ := u64_small 1 (by omega)
  obtain ⟨z1, z2⟩ := u64_small 0 (by omega)
  simp only [Int.natCast_one, Int.natCast_zero] at o1 o2 z1 z2
  have w1 : IntKind.u64.wrap (1 * (n : Int)) = (n : Int) := by rw [Int.one_mul, wrapU (by omega) (by omega)]
  have w2 : IntKind.u64.wrap (0 * (n : Int)) = 0 := by rw [Int.zero_mul, wrapU (by omega) (by omega)]
  have w3 : IntKind.u64.wrap (0 + 0) = 0 := rfl
  have w4 : IntKind.u64.wrap (1 * 0) = 0 := rfl
  have w5 : IntKind.u64.wrap (0 * 0) = 0 := rfl
  simp only [c191, n1, n2, o1, o2, z1, z2, w1, w2, w3, w4, w5, evX, Int.reduceEq, Int.reduceLT, Int.reduceLE, Nat.reduceMul, Nat.reduceMod, evW, fn_eq, evR, Nat.reduceAdd, Nat.reduceLT, Nat.reduceLeDiff, reduceIte, Nat.reduceEqDiff, reduceCtorEq, argEnv, eq_self, if_true, if_false]
  repeat' ((first | rw [guardK_cases] | rw [condK_bool] | rw [guardD_cases]); split <;> simp only [c191, n1, n2, o1, o2, z1, z2, w1, w2, w3, w4, w5, evX, Int.reduceEq, Int.reduceLT, Int.reduceLE, Nat.reduceMul, Nat.reduceMod, evW, evR, Nat.reduceAdd, Nat.reduceLT, Nat.reduceLeDiff, reduceIte, Nat.reduceEqDiff, reduceCtorEq, argEnv, eq_self, if_true, if_false, *])
theorem f154 (n : Nat) (h : n ≤ 12) (H : Heap) : cal (evC cprog) false 154 [.int .u64 1, .int .u64 (n : Int)] H = some (.tup [.int .u64 0, .int .u64 (n : Int)], H) := by
  rw [cal_of at154]
  have h1 := f191 n h
  simp only [c154, h1, evX, Int.reduceEq, Int.reduceLT, Int.reduceLE, Nat.reduceMul, Nat.reduceMod, evW, fn_eq, evR, Nat.reduceAdd, Nat.reduceLT, Nat.reduceLeDiff, reduceIte, Nat.reduceEqDiff, reduceCtorEq, argEnv, eq_self, if_true, if_false]
  repeat' ((first | rw [guardK_cases] | rw [condK_bool] | rw [guardD_cases]); split <;> simp only [c154, h1, evX, Int.reduceEq, Int.reduceLT, Int.reduceLE, Nat.reduceMul, Nat.reduceMod, evW, evR, Nat.reduceAdd, Nat.reduceLT, Nat.reduceLeDiff, reduceIte, Nat.reduceEqDiff, reduceCtorEq, argEnv, eq_self, if_true, if_false, *])
/-- what slices.Repeat has filled so far -/
def repBlk (s : ByteArray) (k N : Nat) : Blk := ⟨0, true, 9, 1, List.replicate k [.str s] ++ List.replicate (N - k) [.str ⟨#[]⟩]⟩
theorem rep_els (a z : AV) {k m N : Nat} (h1 : m ≤ k) (h2 : k + m ≤ N) : (List.replicate k [a] ++ List.replicate (N - k) [z]).take k ++ (List.replicate k [a]).take m ++ (List.replicate k [a] ++ List.replicate (N - k) [z]).drop (k + m) = List.replicate (k + m) [a] ++ List.replicate (N - (k + m)) [z] := by
  rw [List.take_left' (by simp), List.take_replicate, List.drop_append, List.drop_replicate, List.drop_replicate, List.length_replicate, show k - (k + m) = 0 by omega, show N - k - (k + m - k) = N - (k + m) by omega, show min m k = m by omega, List.replicate_zero, List.nil_append, List.replicate_append_replicate]
theorem rep_cpy (s : ByteArray) (N : Nat) (H : Heap) : ∀ k, 0 < k → k < N → copyK 1 (H ++ [repBlk s k N]) (some (.ref H.length 0 1 k (N - k))) (some (.ref H.length 0 1 0 k)) = some (.int .i64 (min k (N - k) : Nat), H ++ [repBlk s (k + min k (N - k)) N]) := fun k k0 k1 => by
  have e2 : curBlk (H ++ [repBlk s k N]) H.length 0 1 = some (repBlk s k N) := by simp [curBlk, repBlk]
  obtain ⟨j, hj⟩ : ∃ j, k = j + 1 := ⟨k - 1, by omega⟩
  have e3 : srcRows (H ++ [repBlk s k N]) (.ref H.length 0 1 0 k) = some (List.replicate k [.str s]) := by
    rw [hj] at e2 ⊢
    simp only [srcRows, rowsOf, e2, Option.map_some, List.drop_zero]
    simp only [repBlk]
    rw [List.take_left' (by simp)]
  have hh : headOk 1 (List.replicate k [AV.str s]) = true := by rw [hj]; rfl
  simp only [copyK, e3, evCopy, evLen, List.length_replicate]
  rw [if_neg (by omega), if_neg (by rw [hh]; simp)]
  simp only [e2, if_true]
  have hx := rep_els (.str s) (.str ⟨#[]⟩) (k := k) (m := min k (N - k)) (N := N) (by omega) (by omega)
  simp only [repBlk, hx, List.set_append_right _ _ (Nat.le_refl _), Nat.sub_self, List.set_cons_zero]
theorem l90 (s : ByteArray) (N : Nat) (h0 : 0 < N) (h : N ≤ 12) (H : Heap) (st : St) (hE : keepEnv st.1 [7, 8] = [(7, .ref H.length 0 1 0 N), (8, .int .i64 1)]) (hH : st.2 = H ++ [repBlk s 1 N]) (z : Option (CX × St)) (hz : itLim (evCode (evC cprog) itLim c90_l0) st = z) :
    ∃ T, z = some (.exit 0, T, H ++ [repBlk s N N]) ∧ keepEnv T [7] = [(7, .ref H.length 0 1 0 N)] := by
  have L := loop_rule (σ := Nat) (m := [7, 8]) (env := fun k => [(7, .ref H.length 0 1 0 N), (8, .int .i64 (k : Int))]) (hp := fun k => H ++ [repBlk s k N])
    (P := fun _ r => ∃ T, r = (.exit 0, T, H ++ [repBlk s N N]) ∧ keepEnv T [7] = [(7, .ref H.length 0 1 0 N)])
    (mu := fun k => N - k) (I := fun k => 0 < k ∧ k ≤ N) (evCode (evC cprog) itLim c90_l0) ?_ 1 st ⟨by omega, by omega⟩ hE hH z hz
  · obtain ⟨_, rfl, T, rfl, hT⟩ := L
    exact ⟨T, rfl, hT⟩
  · rintro k ⟨k0, k1⟩ E hE
    by_cases hlt : k < N
    · have hk : (k : Int) < (N : Int) := by omega
      have s1 : ∀ Z, evSlc Z 1 (.ref H.length 0 1 0 N) (some k) none none = some (.ref H.length 0 1 k (N - k)) := fun Z => by simp [evSlc, k1]
      have s2 : ∀ Z, evSlc Z 1 (.ref H.length 0 1 0 N) none (some k) none = some (.ref H.length 0 1 0 k) := fun Z => by simp [evSlc, k1]
      have hc := rep_cpy s N H k k0 hlt
      have hw : IntKind.i64.wrap ((k : Int) + ((min k (N - k) : Nat) : Int)) = ((k + min k (N - k) : Nat) : Int) := by rw [wrap_i64 (by omega) (by omega)]; omega
      simp only [c90_l0, hE, hk, s1, s2, asNat_cast, hc, hw, evX, Int.reduceEq, Int.reduceLT, Int.reduceLE, Nat.reduceMul, Nat.reduceMod, evW, fn_eq, evR, Nat.reduceAdd, Nat.reduceLT, Nat.reduceLeDiff, reduceIte, Nat.reduceEqDiff, reduceCtorEq, argEnv, eq_self, if_true, if_false]
      repeat' ((first | rw [guardK_cases] | rw [condK_bool] | rw [guardD_cases]); split <;> simp only [c90_l0, hE, hk, s1, s2, asNat_cast, hc, hw, evX, Int.reduceEq, Int.reduceLT, Int.reduceLE, Nat.reduceMul, Nat.reduceMod, evW, evR, Nat.reduceAdd, Nat.reduceLT, Nat.reduceLeDiff, reduceIte, Nat.reduceEqDiff, reduceCtorEq, argEnv, eq_self, if_true, if_false, *])
      exact q_next (k + min k (N - k)) (by rfl) rfl ⟨by omega, by omega⟩ (by omega) fun r h => h
    · have hk : ¬ (k : Int) < (N : Int) := by omega
      have : k = N := by omega
      subst this
      simp only [c90_l0, hE, hk, evX, Int.reduceEq, Int.reduceLT, Int.reduceLE, Nat.reduceMul, Nat.reduceMod, evW, fn_eq, evR, Nat.reduceAdd, Nat.reduceLT, Nat.reduceLeDiff, reduceIte, Nat.reduceEqDiff, reduceCtorEq, argEnv, eq_self, if_true, if_false]
      repeat' ((first | rw [guardK_cases] | rw [condK_bool] | rw [guardD_cases]); split <;> simp only [c90_l0, hE, hk, evX, Int.reduceEq, Int.reduceLT, Int.reduceLE, Nat.reduceMul, Nat.reduceMod, evW, evR, Nat.reduceAdd, Nat.reduceLT, Nat.reduceLeDiff, reduceIte, Nat.reduceEqDiff, reduceCtorEq, argEnv, eq_self, if_true, if_false, *])
      exact q_exit ⟨_, rfl, by rfl⟩
set_option maxHeartbeats 4000000 in
theorem f90 (s : ByteArray) (N : Nat) (h0 : 0 < N) (h : N ≤ 12) (b : Nat) (H : Heap) (hb : H[b]? = some ⟨0, true, 9, 1, [[.str s]]⟩) : cal (evC cprog) false 90 [.ref b 0 1 0 1, .int .i64 (N : Int)] H = some (.ref H.length 0 1 0 N, H ++ [⟨0, true, 9, 1, List.replicate N [.str s]⟩]) := by
  rw [cal_of at90]
  have h154 : ∀ K, cal (evC cprog) false 154 [.int .u64 ((1 : Nat) : Int), .int .u64 (N : Int)] K = some (.tup [.int .u64 0, .int .u64 (N : Int)], K) := f154 N h
  have hw1 : IntKind.u64.wrap ((1 : Nat) : Int) = ((1 : Nat) : Int) := rfl
  have hw2 : IntKind.u64.wrap (N : Int) = (N : Int) := wrapU (by omega) (by omega)
  have hw3 : IntKind.i64.wrap (N : Int) = (N : Int) := wrap_i64 (by omega) (by omega)
  have hn0 : ¬ (N : Int) < 0 := by omega
  have hn1 : ¬ (9223372036854775807 : Int) < (N : Int) := by omega
  have hm : ∀ K : Heap, mksK 9 1 16 [.str ⟨#[]⟩] K (some (.int .i64 (N : Int))) (some (.int .i64 (N : Int))) = some (.ref K.length 0 1 0 N, K ++ [repBlk s 0 N]) := fun K => by
    have ha : asNat (.int .i64 (N : Int)) = some N := asNat_cast .i64 N
    simp only [mksK, ha]
    rw [if_pos ⟨Nat.le_refl _, by unfold reach; omega, by unfold reach; omega, rfl, h0⟩]
    simp [repBlk]
  have hbl := (List.getElem?_eq_some_iff.1 hb).1
  have hc1 : copyK 1 (H ++ [repBlk s 0 N]) (some (.ref H.length 0 1 0 N)) (some (.ref b 0 1 0 1)) = some (.int .i64 1, H ++ [repBlk s 1 N]) := by
    have e1 : curBlk (H ++ [repBlk s 0 N]) b 0 1 = some ⟨0, true, 9, 1, [[.str s]]⟩ := by simp [curBlk, List.getElem?_append_left hbl, hb]
    have e2 : curBlk (H ++ [repBlk s 0 N]) H.length 0 1 = some (repBlk s 0 N) := by simp [curBlk, repBlk]
    have e3 : srcRows (H ++ [repBlk s 0 N]) (.ref b 0 1 0 1) = some [[.str s]] := by simp [srcRows, rowsOf, e1]
    have e4 : min 1 N = 1 := by omega
    simp only [copyK, e3, evCopy, evLen, List.length_cons, List.length_nil, Nat.zero_add, e4]
    rw [if_neg (by omega)]
    simp only [headOk, List.length_cons, List.length_nil, e2, if_true]
    simp [repBlk]
  simp only [c90, hn0, h154, hw1, hw2, hw3, hn1, hm, hc1, Int.lt_irrefl, evX, Int.reduceEq, Int.reduceLT, Int.reduceLE, Nat.reduceMul, Nat.reduceMod, evW, fn_eq, evR, Nat.reduceAdd, Nat.reduceLT, Nat.reduceLeDiff, reduceIte, Nat.reduceEqDiff, reduceCtorEq, argEnv, eq_self, if_true, if_false]
  repeat' ((first | rw [guardK_cases] | rw [condK_bool] | rw [guardD_cases]); split <;> simp only [c90, hn0, h154, hw1, hw2, hw3, hn1, hm, hc1, Int.lt_irrefl, evX, Int.reduceEq, Int.reduceLT, Int.reduceLE, Nat.reduceMul, Nat.reduceMod, evW, evR, Nat.reduceAdd, Nat.reduceLT, Nat.reduceLeDiff, reduceIte, Nat.reduceEqDiff, reduceCtorEq, argEnv, eq_self, if_true, if_false, *])
  generalize hz : itLim _ _ = z
  obtain ⟨T, rfl, hT⟩ := l90 s N h0 h H _ (by rfl) (by rfl) z hz
  simp only [hT, evX, Int.reduceEq, Int.reduceLT, Int.reduceLE, Nat.reduceMul, Nat.reduceMod, evW, fn_eq, evR, Nat.reduceAdd, Nat.reduceLT, Nat.reduceLeDiff, reduceIte, Nat.reduceEqDiff, reduceCtorEq, argEnv, eq_self, if_true, if_false]
  repeat' ((first | rw [guardK_cases] | rw [condK_bool] | rw [guardD_cases]); split <;> simp only [hT, evX, Int.reduceEq, Int.reduceLT, Int.reduceLE, Nat.reduceMul, Nat.reduceMod, evW, evR, Nat.reduceAdd, Nat.reduceLT, Nat.reduceLeDiff, reduceIte, Nat.reduceEqDiff, reduceCtorEq, argEnv, eq_self, if_true, if_false, *])
  simp [repBlk]
end Go.Proofs.Ytondenmkhfignaa.Code

/- screen: lengths; what may be shown; texts that fill a field; texts laid into a picture. -/
set_option linter.unusedSimpArgs false
set_option linter.unusedVariables false
namespace Go.Proofs.Ytondenmkhfignaa.Code
open Go.Proofs.Ytondenmkhfignaa.Ev

def mxI (g : Slot → Int) (l : List Slot) : Int := l.foldl (fun a s => max a (g s + 1)) 0
theorem mx_step (g : Slot → Int) {l : List Slot} {i : Nat} {x : Slot} (h : l[i]? = some x) : mxI g (l.take (i + 1)) = max (mxI g (l.take i)) (g x + 1) := by
  unfold mxI
  rw [List.take_add_one, h, Option.toList_some, List.foldl_append]
  rfl
theorem mx_ge (g : Slot → Int) : ∀ (l : List Slot) (a : Int), a ≤ l.foldl (fun a s => max a (g s + 1)) a ∧ (∀ s ∈ l, g s + 1 ≤ l.foldl (fun a s => max a (g s + 1)) a) ∧ ((∀ s ∈ l, g s + 1 ≤ 4) → a ≤ 4 → l.foldl (fun a s => max a (g s + 1)) a ≤ 4)
  | [], a => ⟨Int.le_refl a, (fun s h => by cases h), fun _ h => h⟩
  | x :: l, a => by
    obtain ⟨h1, h2, h3⟩ := mx_ge g l (max a (g x + 1))
    rw [List.foldl_cons]
    refine ⟨by omega, fun s hs => ?_, fun hs ha => h3 (fun s h => hs s (List.mem_cons_of_mem _ h)) ?_⟩
    · rcases List.mem_cons.1 hs with rfl | hs
      · omega
      · exact h2 s hs
    · have := hs x (List.mem_cons_self ..)
      omega
theorem FormG.slotAt {f : Form} (g : FormG f) {x : Slot} (hx : x ∈ f.slots) : -1 ≤ x.inn ∧ x.inn ≤ 3 ∧ -1 ≤ x.out ∧ x.out ≤ 3 ∧ okB x.fill = true ∧ 0 ≤ x.row ∧ x.row < f.rows ∧ 0 ≤ x.col ∧ 1 ≤ x.bytes ∧ x.col + x.bytes ≤ f.cols := by
  obtain ⟨i, hi⟩ := List.getElem?_of_mem hx
  obtain ⟨_, h2, h3, h4, h5, h6, _⟩ := slot_parts (g.slot i x hi)
  obtain ⟨l1, l2, l3, l4, l5, l6, l7⟩ := lies_at g.chi (g.lies (FormG.slotIn hx))
  exact ⟨h2, h3, h4, h5, h6, l6, l7, l1, l3, l5⟩
set_option maxHeartbeats 4000000 in
theorem f48 (f : Form) (g : FormG f) (H : Heap) : cal (evC cprog) false 48 [eForm f] H = some (.tup [.int .i64 (mxI Slot.inn f.slots), .int .i64 (mxI Slot.out f.slots)], H) := by
  rw [cal_of at48]
  have hl2 := (sSlots [] f.slots).len
  simp only [List.length_map] at hl2
  have hsl := g.sl
  simp only [c48, eForm, hl2, evX, Int.reduceEq, Int.reduceLT, Int.reduceLE, Nat.reduceMul, Nat.reduceMod, evW, fn_eq, evR, Nat.reduceAdd, Nat.reduceLT, Nat.reduceLeDiff, reduceIte, Nat.reduceEqDiff, reduceCtorEq, argEnv, eq_self, if_true, if_false]
  repeat' ((first | rw [guardK_cases] | rw [condK_bool] | rw [guardD_cases]); split <;> simp only [c48, eForm, hl2, evX, Int.reduceEq, Int.reduceLT, Int.reduceLE, Nat.reduceMul, Nat.reduceMod, evW, evR, Nat.reduceAdd, Nat.reduceLT, Nat.reduceLeDiff, reduceIte, Nat.reduceEqDiff, reduceCtorEq, argEnv, eq_self, if_true, if_false, *])
  generalize hz : itLim _ _ = z
  have L := all_rule f.slots (fun _ => true) [2, 3, 7, 8, 9] (fun i => [(2, .int .i64 (mxI Slot.inn (f.slots.take i))), (3, .int .i64 (mxI Slot.out (f.slots.take i))), (7, eSlots f.slots), (8, .int .i64 (f.slots.length : Int)), (9, .int .i64 (i : Int))]) H [bForm f] (evCode (evC cprog) itLim c48_l0) (fun c T => c = .exit 0 ∧ keepEnv T [2, 3] = [(2, .int .i64 (mxI Slot.inn f.slots)), (3, .int .i64 (mxI Slot.out f.slots))]) (fun c T => False)
    (fun i x hx E G hE => by
      have hlt : i < f.slots.length := (List.getElem?_eq_some_iff.1 hx).1
      have hi : (i : Int) < (f.slots.length : Int) := by omega
      have ha := aSlot hx
      obtain ⟨p1, p2, p3, p4, _⟩ := g.slotAt (List.mem_of_getElem? hx)
      have hwi : IntKind.i64.wrap (x.inn + 1) = x.inn + 1 := wrap_i64 (by omega) (by omega)
      have hwo : IntKind.i64.wrap (x.out + 1) = x.out + 1 := wrap_i64 (by omega) (by omega)
      have s1 := mx_step Slot.inn hx
      have s2 := mx_step Slot.out hx
      generalize mxI Slot.inn (f.slots.take i) = u at *
      generalize mxI Slot.out (f.slots.take i) = v at *
      simp only [c48_l0, hE, hi, ha, rSlot, hwi, hwo, wrapS hlt (by omega), evX, Int.reduceEq, Int.reduceLT, Int.reduceLE, Nat.reduceMul, Nat.reduceMod, evW, fn_eq, evR, Nat.reduceAdd, Nat.reduceLT, Nat.reduceLeDiff, reduceIte, Nat.reduceEqDiff, reduceCtorEq, argEnv, eq_self, if_true, if_false]
      repeat' ((first | rw [guardK_cases] | rw [condK_bool] | rw [guardD_cases]); split <;> simp only [c48_l0, hE, hi, ha, rSlot, hwi, hwo, wrapS hlt (by omega), evX, Int.reduceEq, Int.reduceLT, Int.reduceLE, Nat.reduceMul, Nat.reduceMod, evW, evR, Nat.reduceAdd, Nat.reduceLT, Nat.reduceLeDiff, reduceIte, Nat.reduceEqDiff, reduceCtorEq, argEnv, eq_self, if_true, if_false, *])
      exact Sc.next rfl (by rw [s1, s2]; rfl))
    (fun E G hE => by
      rw [List.take_of_length_le (Nat.le_refl _)] at hE
      simp only [c48_l0, hE, Int.lt_irrefl, evX, Int.reduceEq, Int.reduceLT, Int.reduceLE, Nat.reduceMul, Nat.reduceMod, evW, fn_eq, evR, Nat.reduceAdd, Nat.reduceLT, Nat.reduceLeDiff, reduceIte, Nat.reduceEqDiff, reduceCtorEq, argEnv, eq_self, if_true, if_false]
      repeat' ((first | rw [guardK_cases] | rw [condK_bool] | rw [guardD_cases]); split <;> simp only [c48_l0, hE, Int.lt_irrefl, evX, Int.reduceEq, Int.reduceLT, Int.reduceLE, Nat.reduceMul, Nat.reduceMod, evW, evR, Nat.reduceAdd, Nat.reduceLT, Nat.reduceLeDiff, reduceIte, Nat.reduceEqDiff, reduceCtorEq, argEnv, eq_self, if_true, if_false, *])
      exact .exit (K := [bForm f]) ⟨rfl, by rfl⟩) _ [] (by rfl) (by simp [bForm]) z hz
  rcases L with ⟨ha, c, T, G, rfl, _, rfl, hT⟩ | ⟨ha, _⟩
  · simp only [hT, evX, Int.reduceEq, Int.reduceLT, Int.reduceLE, Nat.reduceMul, Nat.reduceMod, evW, fn_eq, evR, Nat.reduceAdd, Nat.reduceLT, Nat.reduceLeDiff, reduceIte, Nat.reduceEqDiff, reduceCtorEq, argEnv, eq_self, if_true, if_false]
    repeat' ((first | rw [guardK_cases] | rw [condK_bool] | rw [guardD_cases]); split <;> simp only [hT, evX, Int.reduceEq, Int.reduceLT, Int.reduceLE, Nat.reduceMul, Nat.reduceMod, evW, evR, Nat.reduceAdd, Nat.reduceLT, Nat.reduceLeDiff, reduceIte, Nat.reduceEqDiff, reduceCtorEq, argEnv, eq_self, if_true, if_false, *])
  · simp at ha
def badT (s : ByteArray) : Bool := decide ((200 : Int) < s.size) || !isText s
theorem f88 (s : ByteArray) (hs : s.size < 9223372036854775807) (H : Heap) : cal (evC cprog) false 88 [.str s] H = some (.bool (badT s), H) := by
  rw [cal_of at88]
  have h := f89 s hs
  by_cases c1 : (200 : Int) < (s.size : Int)
  · simp only [c88, c1, evX, Int.reduceEq, Int.reduceLT, Int.reduceLE, Nat.reduceMul, Nat.reduceMod, evW, fn_eq, evR, Nat.reduceAdd, Nat.reduceLT, Nat.reduceLeDiff, reduceIte, Nat.reduceEqDiff, reduceCtorEq, argEnv, eq_self, if_true, if_false]
    repeat' ((first | rw [guardK_cases] | rw [condK_bool] | rw [guardD_cases]); split <;> simp only [c88, c1, evX, Int.reduceEq, Int.reduceLT, Int.reduceLE, Nat.reduceMul, Nat.reduceMod, evW, evR, Nat.reduceAdd, Nat.reduceLT, Nat.reduceLeDiff, reduceIte, Nat.reduceEqDiff, reduceCtorEq, argEnv, eq_self, if_true, if_false, *])
    simp [badT]; omega
  · simp only [c88, c1, h, evX, Int.reduceEq, Int.reduceLT, Int.reduceLE, Nat.reduceMul, Nat.reduceMod, evW, fn_eq, evR, Nat.reduceAdd, Nat.reduceLT, Nat.reduceLeDiff, reduceIte, Nat.reduceEqDiff, reduceCtorEq, argEnv, eq_self, if_true, if_false]
    repeat' ((first | rw [guardK_cases] | rw [condK_bool] | rw [guardD_cases]); split <;> simp only [c88, c1, h, evX, Int.reduceEq, Int.reduceLT, Int.reduceLE, Nat.reduceMul, Nat.reduceMod, evW, evR, Nat.reduceAdd, Nat.reduceLT, Nat.reduceLeDiff, reduceIte, Nat.reduceEqDiff, reduceCtorEq, argEnv, eq_self, if_true, if_false, *])
    simp [badT]; omega
theorem f87 (l : List ByteArray) (hl : l.length < 9223372036854775807) (hs : ∀ s ∈ l, s.size < 9223372036854775807) (H : Heap) : cal (evC cprog) false 87 [eStrs l, .fn 88 []] H = some (.bool (l.any badT), H) :=
  containsFunc_ok (g := 152) at87 (indexFunc_ok (sz := 1) (ag := false) at152 rS (fun s => .str s) lS 88 [] badT H _ l (sStrs H l) hl fun s h => f88 s (hs s h) H)
noncomputable def showE (f : Form) (l : List ByteArray) : Int := if (l.length : Int) = mxI Slot.out f.slots ∧ l.any badT = false then 0 else 2
theorem f44 (f : Form) (g : FormG f) (l : List ByteArray) (hl : l.length < 9223372036854775807) (hs : ∀ s ∈ l, s.size < 9223372036854775807) (H : Heap) : cal (evC cprog) false 44 [eForm f, eStrs l] H = some (.int .i64 (showE f l), H) := by
  rw [cal_of at44]
  have h46 := f46 f g
  have h48 := f48 f g
  have h87 := f87 l hl hs
  have hlen := (sStrs [] l).len
  simp only [List.length_map] at hlen
  have hcl : (eStrs l).cells = [eStrs l] := rfl
  have htl : (eStrs l).isTup = false := rfl
  simp only [eForm] at h46 h48
  by_cases c1 : (l.length : Int) = mxI Slot.out f.slots
  · have c1' : ((l.length : Int) = mxI Slot.out f.slots) = True := eq_true c1
    cases hb : l.any badT with
    | false =>
      rw [show showE f l = 0 from if_pos ⟨c1, hb⟩]
      simp only [hb] at h87
      clear c1
      simp only [c44, eForm, hcl, htl, h46, h48, hlen, c1', h87, evX, Int.reduceEq, Int.reduceLT, Int.reduceLE, Nat.reduceMul, Nat.reduceMod, evW, fn_eq, evR, Nat.reduceAdd, Nat.reduceLT, Nat.reduceLeDiff, reduceIte, Nat.reduceEqDiff, reduceCtorEq, argEnv, eq_self, if_true, if_false]
      repeat' ((first | rw [guardK_cases] | rw [condK_bool] | rw [guardD_cases]); split <;> simp only [c44, eForm, hcl, htl, h46, h48, hlen, c1', h87, evX, Int.reduceEq, Int.reduceLT, Int.reduceLE, Nat.reduceMul, Nat.reduceMod, evW, evR, Nat.reduceAdd, Nat.reduceLT, Nat.reduceLeDiff, reduceIte, Nat.reduceEqDiff, reduceCtorEq, argEnv, eq_self, if_true, if_false, *])
    | true =>
      rw [show showE f l = 2 from if_neg (by rw [hb]; simp)]
      simp only [hb] at h87
      clear c1
      simp only [c44, eForm, hcl, htl, h46, h48, hlen, c1', h87, evX, Int.reduceEq, Int.reduceLT, Int.reduceLE, Nat.reduceMul, Nat.reduceMod, evW, fn_eq, evR, Nat.reduceAdd, Nat.reduceLT, Nat.reduceLeDiff, reduceIte, Nat.reduceEqDiff, reduceCtorEq, argEnv, eq_self, if_true, if_false]
      repeat' ((first | rw [guardK_cases] | rw [condK_bool] | rw [guardD_cases]); split <;> simp only [c44, eForm, hcl, htl, h46, h48, hlen, c1', h87, evX, Int.reduceEq, Int.reduceLT, Int.reduceLE, Nat.reduceMul, Nat.reduceMod, evW, evR, Nat.reduceAdd, Nat.reduceLT, Nat.reduceLeDiff, reduceIte, Nat.reduceEqDiff, reduceCtorEq, argEnv, eq_self, if_true, if_false, *])
  · have c1' : ((l.length : Int) = mxI Slot.out f.slots) = False := eq_false c1
    rw [show showE f l = 2 from if_neg fun h => c1 h.1]
    clear c1
    simp only [c44, eForm, hcl, htl, h46, h48, hlen, c1', evX, Int.reduceEq, Int.reduceLT, Int.reduceLE, Nat.reduceMul, Nat.reduceMod, evW, fn_eq, evR, Nat.reduceAdd, Nat.reduceLT, Nat.reduceLeDiff, reduceIte, Nat.reduceEqDiff, reduceCtorEq, argEnv, eq_self, if_true, if_false]
    repeat' ((first | rw [guardK_cases] | rw [condK_bool] | rw [guardD_cases]); split <;> simp only [c44, eForm, hcl, htl, h46, h48, hlen, c1', evX, Int.reduceEq, Int.reduceLT, Int.reduceLE, Nat.reduceMul, Nat.reduceMod, evW, evR, Nat.reduceAdd, Nat.reduceLT, Nat.reduceLeDiff, reduceIte, Nat.reduceEqDiff, reduceCtorEq, argEnv, eq_self, if_true, if_false, *])
/-- a text cut, or filled, to a field's length -/
def filledB (s : Slot) (t : ByteArray) : ByteArray := if s.bytes.toNat ≤ t.size then t.extract 0 s.bytes.toNat else t ++ repB s.fill (s.bytes.toNat - t.size)
theorem filled_size (s : Slot) (t : ByteArray) : (filledB s t).size = s.bytes.toNat := by
  unfold filledB
  split
  · rw [← size_eq, ext_list, List.drop_zero, List.length_take, size_eq]; omega
  · rw [← size_eq, app_list, List.length_append, size_eq, size_eq, repB_size]; omega
theorem repB_txt {c : UInt8} (h : okB c = true) (n : Nat) : isText (repB c n) = true := by
  unfold isText
  rw [repB_list, List.all_eq_true]
  intro x hx
  rw [(List.mem_replicate.1 hx).2]; exact h
theorem filled_txt {s : Slot} {t : ByteArray} (hf : okB s.fill = true) (ht : isText t = true) : isText (filledB s t) = true := by
  unfold filledB
  split
  · exact txt_cut ht _ _
  · rw [txt_ext, ht, repB_txt hf]; rfl
set_option maxHeartbeats 4000000 in
theorem f92 (s : Slot) (h1 : 1 ≤ s.bytes) (h2 : s.bytes ≤ 40) (t : ByteArray) (ht : t.size ≤ 1000000) (H : Heap) : cal (evC cprog) false 92 [.agg (rSlot s), .str t] H = some (.str (filledB s t), H) := by
  rw [cal_of at92]
  by_cases c1 : s.bytes ≤ (t.size : Int)
  · have e1 : evSlcs t none (some s.bytes.toNat) = some (.str (t.extract 0 s.bytes.toNat)) := by
      unfold evSlcs
      simp only [Option.getD_some, Option.getD_none]
      rw [if_pos ⟨by omega, by omega⟩]
    have e2 : filledB s t = t.extract 0 s.bytes.toNat := if_pos (by omega)
    have e3 := asNat_int (a := s.bytes) (by omega) .i64
    rw [e2]
    simp only [c92, rSlot, c1, p_slcs, slcsK_some, e1, e3, evX, Int.reduceEq, Int.reduceLT, Int.reduceLE, Nat.reduceMul, Nat.reduceMod, evW, fn_eq, evR, Nat.reduceAdd, Nat.reduceLT, Nat.reduceLeDiff, reduceIte, Nat.reduceEqDiff, reduceCtorEq, argEnv, eq_self, if_true, if_false]
    repeat' ((first | rw [guardK_cases] | rw [condK_bool] | rw [guardD_cases]); split <;> simp only [c92, rSlot, c1, p_slcs, slcsK_some, e1, e3, evX, Int.reduceEq, Int.reduceLT, Int.reduceLE, Nat.reduceMul, Nat.reduceMod, evW, evR, Nat.reduceAdd, Nat.reduceLT, Nat.reduceLeDiff, reduceIte, Nat.reduceEqDiff, reduceCtorEq, argEnv, eq_self, if_true, if_false, *])
  · have e2 : filledB s t = t ++ repB s.fill (s.bytes.toNat - t.size) := if_neg (by omega)
    have hw : IntKind.i64.wrap (s.bytes - (t.size : Int)) = ((s.bytes.toNat - t.size : Nat) : Int) := by rw [wrap_i64 (by omega) (by omega)]; omega
    have h91 := fun K => f91 s.fill (s.bytes.toNat - t.size) (by omega) K
    have hb2 : ∀ (K : Heap) (n : Nat), K[n]? = some ⟨0, true, 5, 1, [[.int .u8 (s.fill.toNat : Int)]]⟩ → b2sK K (some (.ref n 0 1 0 1)) = some (.str ⟨#[s.fill]⟩) := fun K n hK => by
      simp [b2sK, rowsOf, curBlk, hK, rowBytes]
    have hb := hb2 (H ++ [bSlot s, ⟨0, true, 5, 1, [[.int .u8 (s.fill.toNat : Int)]]⟩]) (H.length + 1) (by simp)
    have hsz : t.size + (repB s.fill (s.bytes.toNat - t.size)).size ≤ 9223372036854775807 := by rw [repB_size]; omega
    simp only [bSlot, rSlot] at hb
    rw [e2]
    clear hb2
    simp only [c92, rSlot, c1, hb, hw, h91, hsz, evX, Int.reduceEq, Int.reduceLT, Int.reduceLE, Nat.reduceMul, Nat.reduceMod, evW, fn_eq, evR, Nat.reduceAdd, Nat.reduceLT, Nat.reduceLeDiff, reduceIte, Nat.reduceEqDiff, reduceCtorEq, argEnv, eq_self, if_true, if_false]
    repeat' ((first | rw [guardK_cases] | rw [condK_bool] | rw [guardD_cases]); split <;> simp only [c92, rSlot, c1, hb, hw, h91, hsz, evX, Int.reduceEq, Int.reduceLT, Int.reduceLE, Nat.reduceMul, Nat.reduceMod, evW, evR, Nat.reduceAdd, Nat.reduceLT, Nat.reduceLeDiff, reduceIte, Nat.reduceEqDiff, reduceCtorEq, argEnv, eq_self, if_true, if_false, *])
end Go.Proofs.Ytondenmkhfignaa.Code

/- screen: texts laid into a picture; the picture of a message. -/
set_option linter.unusedSimpArgs false
set_option linter.unusedVariables false
namespace Go.Proofs.Ytondenmkhfignaa.Code
open Go.Proofs.Ytondenmkhfignaa.Ev

/-- a value that holds a picture -/
structure PicAt (lo : Nat) (H : Heap) (a : AV) (p : List ByteArray) : Prop where
  src : ∀ Y, srcRows (H ++ Y) a = some (p.map rS)
  sp : splitArg [a] = none
  nn : eqnK false 1 (some a) (some .nils) = some (.bool false)
  sc : a.scal = true
  fz' : ∀ Y, ∃ ids, fz (H ++ Y) fzDepth a = some (.lst (p.map rS), ids) ∧ ∀ x ∈ ids, lo ≤ x
theorem PicAt.lst {lo : Nat} {p : List ByteArray} (h : 0 < p.length) (H : Heap) : PicAt lo H (eStrs p) p := by
  obtain ⟨x, xs, rfl⟩ : ∃ x xs, p = x :: xs := by cases p with
    | nil => simp at h
    | cons x xs => exact ⟨x, xs, rfl⟩
  exact ⟨fun _ => rfl, rfl, rfl, rfl, fun _ => ⟨[], rfl, by simp⟩⟩
theorem PicAt.more {lo : Nat} {H : Heap} {a : AV} {p : List ByteArray} (h : PicAt lo H a p) (X : Heap) : PicAt lo (H ++ X) a p := ⟨fun Y => by rw [List.append_assoc]; exact h.src (X ++ Y), h.sp, h.nn, h.sc, fun Y => by rw [List.append_assoc]; exact h.fz' (X ++ Y)⟩
theorem PicAt.ref {lo : Nat} {p : List ByteArray} {H : Heap} {b N : Nat} (hlo : lo ≤ b) (hN : p.length = N) (h0 : 0 < N) (h : H[b]? = some ⟨0, true, 9, 1, p.map rS⟩) : PicAt lo H (.ref b 0 1 0 N) p := by
  obtain ⟨n, rfl⟩ : ∃ n, N = n + 1 := ⟨N - 1, by omega⟩
  have hc : ∀ Y, curBlk (H ++ Y) b 0 1 = some ⟨0, true, 9, 1, p.map rS⟩ := fun Y => by simp [curBlk, List.getElem?_append_left (List.getElem?_eq_some_iff.1 h).1, h]
  refine ⟨fun Y => ?_, rfl, rfl, rfl, fun Y => ?_⟩
  · simp only [srcRows, rowsOf]
    rw [hc]
    simp only [Option.map_some, List.drop_zero]
    rw [List.take_of_length_le (by rw [List.length_map]; omega)]
  · obtain ⟨ids, g1, g2⟩ := fz_blk (len := n + 1) (hc Y) (rows := p.map rS) (by rw [List.take_of_length_le (by rw [List.length_map]; omega)]) (plain_S p) 6
    exact ⟨ids, g1, fun x hx => by have := g2 x hx; omega⟩
theorem clone_at {lo : Nat} (H : Heap) (a : AV) (p : List ByteArray) (h : PicAt lo H a p) (h0 : 0 < p.length) (hl : p.length ≤ 1000) : cal (evC cprog) false 98 [a] H = some (.ref H.length 0 1 0 p.length, H ++ [⟨0, true, 9, 1, p.map rS⟩]) := by
  rw [cal_of at98, show c98 = cClone 9 1 16 from rfl]
  have hsrc := h.src []
  rw [List.append_nil] at hsrc
  have ha := app_nil0 (ty := 9) (sz := 1) (bytes := 16) hsrc (by simpa using List.length_pos_iff.1 h0) (headOk_map rS (fun _ => rfl) p) (by simp only [List.length_map, reach]; omega)
  rw [List.length_map] at ha
  have he := h.nn
  have e1 : evBody (evC cprog) itLim (cClone 9 1 16) [a] H = some (.ref H.length 0 1 0 p.length, H ++ [⟨0, true, 9, 1, p.map rS⟩]) := by
    simp only [cClone, body_eq, he, ha, p_eqn, evX, Int.reduceEq, Int.reduceLT, Int.reduceLE, Nat.reduceMul, Nat.reduceMod, evW, fn_eq, evR, Nat.reduceAdd, Nat.reduceLT, Nat.reduceLeDiff, reduceIte, Nat.reduceEqDiff, reduceCtorEq, argEnv, eq_self, if_true, if_false]
    repeat' ((first | rw [guardK_cases] | rw [condK_bool] | rw [guardD_cases]); split <;> simp only [cClone, body_eq, he, ha, p_eqn, evX, Int.reduceEq, Int.reduceLT, Int.reduceLE, Nat.reduceMul, Nat.reduceMod, evW, evR, Nat.reduceAdd, Nat.reduceLT, Nat.reduceLeDiff, reduceIte, Nat.reduceEqDiff, reduceCtorEq, argEnv, eq_self, if_true, if_false, *])
  have : evFn (evC cprog) itLim (cClone 9 1 16) [a] H = some (.ref H.length 0 1 0 p.length, H ++ [⟨0, true, 9, 1, p.map rS⟩]) := by
    unfold evFn
    rw [if_neg (show ¬ (cClone 9 1 16).closed = true from fun h => by cases h), if_pos (show (cClone 9 1 16).split = true from rfl), h.sp]
    exact e1
  rw [this, calK_f, gc_no _ _ _ rfl]
set_option maxHeartbeats 4000000 in
theorem f49 {lo : Nat} (H : Heap) (a : AV) (p : List ByteArray) (R C r c : Nat) (hd : Dim p R C) (hp : PicAt lo H a p) (hr : r < R) (s : ByteArray) (hc : c + s.size ≤ C) (hR : R ≤ 1000) (hC : C ≤ 1000) : cal (evC cprog) true 49 [a, .int .i64 (r : Int), .int .i64 (c : Int), .str s] H = some (eStrs (lay p r c s), H) := by
  rw [cal_of at49]
  obtain ⟨q, hq, hqs, hrow⟩ := hd.at hr
  have hlen := hd.len
  have h98 := clone_at H a p hp (by omega) (by omega)
  have hrp : r < p.length := by omega
  have hel : (p.map rS)[r]? = some [.str q] := by rw [List.getElem?_map, hq]; rfl
  have hs1 : evSlcs q none (some c) = some (.str (q.extract 0 c)) := by
    unfold evSlcs
    simp only [Option.getD_some, Option.getD_none]
    rw [if_pos ⟨by omega, by omega⟩]
  have hs2 : evSlcs q (some (c + s.size)) none = some (.str (q.extract (c + s.size) q.size)) := by
    unfold evSlcs
    simp only [Option.getD_some, Option.getD_none]
    rw [if_pos ⟨by omega, by omega⟩]
  have hw : IntKind.i64.wrap ((c : Int) + (s.size : Int)) = ((c + s.size : Nat) : Int) := by rw [wrap_i64 (by omega) (by omega)]; omega
  have z0 : (q.extract 0 c).size = c := by rw [← size_eq, ext_list, List.drop_zero, List.length_take, size_eq]; omega
  have z2 : (q.extract (c + s.size) q.size).size = C - (c + s.size) := by rw [← size_eq, ext_list, List.length_drop, List.length_take, size_eq]; omega
  have z1 : (q.extract 0 c ++ s).size = c + s.size := by rw [← size_eq, app_list, List.length_append, size_eq, size_eq, z0]
  have hz1 : (q.extract 0 c).size + s.size ≤ 9223372036854775807 := by omega
  have hz2 : (q.extract 0 c ++ s).size + (q.extract (c + s.size) q.size).size ≤ 9223372036854775807 := by omega
  clear z0 z1 z2
  have hrows : (p.map rS).set r [.str (q.extract 0 c ++ s ++ q.extract (c + s.size) q.size)] = (lay p r c s).map rS := by
    unfold lay
    rw [hrow, List.map_set]
    rfl
  simp only [c49, h98, hrp, hel, p_slcs, slcsK_some, asNat_cast, hs1, hs2, hw, hz1, hz2, evX, Int.reduceEq, Int.reduceLT, Int.reduceLE, Nat.reduceMul, Nat.reduceMod, evW, fn_eq, evR, Nat.reduceAdd, Nat.reduceLT, Nat.reduceLeDiff, reduceIte, Nat.reduceEqDiff, reduceCtorEq, argEnv, eq_self, if_true, if_false]
  repeat' ((first | rw [guardK_cases] | rw [condK_bool] | rw [guardD_cases]); split <;> simp only [c49, h98, hrp, hel, p_slcs, slcsK_some, asNat_cast, hs1, hs2, hw, hz1, hz2, evX, Int.reduceEq, Int.reduceLT, Int.reduceLE, Nat.reduceMul, Nat.reduceMod, evW, evR, Nat.reduceAdd, Nat.reduceLT, Nat.reduceLeDiff, reduceIte, Nat.reduceEqDiff, reduceCtorEq, argEnv, eq_self, if_true, if_false, *])
  rw [hrows]
  obtain ⟨ids, g1, g2⟩ := fz_blk (H := H ++ [⟨0, true, 9, 1, (lay p r c s).map rS⟩]) (b := H.length) (v := 0) (sz := 1) (len := p.length) (k := ⟨0, true, 9, 1, (lay p r c s).map rS⟩) (by simp [curBlk]) (rows := (lay p r c s).map rS) (by
    rw [List.take_of_length_le (by unfold lay; simp)]) (plain_S _) 6
  exact frz_one g1 rfl (by simp) (fun x hx => by have := g2 x hx; omega)
end Go.Proofs.Ytondenmkhfignaa.Code

/- screen: the picture of a message. -/
set_option linter.unusedSimpArgs false
set_option linter.unusedVariables false
namespace Go.Proofs.Ytondenmkhfignaa.Code
open Go.Proofs.Ytondenmkhfignaa.Ev

def layM (p : List ByteArray) (m : Mark) : List ByteArray := lay p m.row.toNat m.col.toNat m.text
def blankP (f : Form) : List ByteArray := List.replicate f.rows.toNat (repB 32 f.cols.toNat)
def baseP (f : Form) : List ByteArray := f.marks.foldl layM (blankP f)
def txtOf (l : List ByteArray) (s : Slot) : ByteArray := if s.out < 0 then ⟨#[]⟩ else rowP l s.out.toNat
def fillG (l : List ByteArray) (s : Slot) : ByteArray := filledB s (txtOf l s)
def showP (f : Form) (l : List ByteArray) : List ByteArray := laysF (fillG l) f.slots (baseP f)
theorem blank_dim (f : Form) : Dim (blankP f) f.rows.toNat f.cols.toNat := ⟨by simp [blankP], fun s hs => by
  unfold blankP at hs
  rw [(List.mem_replicate.1 hs).2, repB_size]⟩
theorem FormG.markAt {f : Form} (g : FormG f) {m : Mark} (hm : m ∈ f.marks) : 0 ≤ m.row ∧ m.row < f.rows ∧ 0 ≤ m.col ∧ m.col + (m.text.size : Int) ≤ f.cols := by
  obtain ⟨l1, l2, l3, l4, l5, l6, l7⟩ := lies_at g.chi (g.lies (FormG.markIn hm))
  exact ⟨l6, l7, l1, l5⟩
theorem marks_dim {f : Form} (g : FormG f) : ∀ (l : List Mark), (∀ m ∈ l, m ∈ f.marks) → ∀ p, Dim p f.rows.toNat f.cols.toNat → Dim (l.foldl layM p) f.rows.toNat f.cols.toNat
  | [], _, p, h => h
  | m :: l, hm, p, h => by
    obtain ⟨m1, m2, m3, m4⟩ := g.markAt (hm m (List.mem_cons_self ..))
    exact marks_dim g l (fun x hx => hm x (List.mem_cons_of_mem _ hx)) _ (h.lay (by omega) (by omega))
theorem marks_txt {f : Form} (g : FormG f) : ∀ (l : List Mark), (∀ m ∈ l, m ∈ f.marks) → ∀ p, Dim p f.rows.toNat f.cols.toNat → (∀ s ∈ p, isText s = true) → ∀ s ∈ l.foldl layM p, isText s = true
  | [], _, p, _, h => h
  | m :: l, hm, p, hd, h => by
    obtain ⟨m1, m2, m3, m4⟩ := g.markAt (hm m (List.mem_cons_self ..))
    exact marks_txt g l (fun x hx => hm x (List.mem_cons_of_mem _ hx)) _ (hd.lay (by omega) (by omega)) (lay_txt hd (by omega) h (g.txt m (hm m (List.mem_cons_self ..))))
theorem base_dim {f : Form} (g : FormG f) : Dim (baseP f) f.rows.toNat f.cols.toNat := marks_dim g _ (fun _ h => h) _ (blank_dim f)
theorem apart_of {f : Form} (g : FormG f) : Apart f.slots f.rows.toNat f.cols.toNat := by
  refine ⟨fun s hs => ?_, fun s hs => ?_, List.pairwise_iff_getElem.2 fun i j hi hj hij a c ⟨h1, h2⟩ => ?_⟩
  · obtain ⟨_, _, _, _, _, s1, s2, s3, s4, s5⟩ := g.slotAt hs
    omega
  · obtain ⟨_, _, _, _, _, s1, s2, s3, s4, s5⟩ := g.slotAt hs
    omega
  · have hx : (spansOf f)[f.marks.length + j]? = some (slotS f.slots[j]) := by
      unfold spansOf
      rw [List.getElem?_append_right (by simp), List.length_map, List.getElem?_map, Nat.add_sub_cancel_left, List.getElem?_eq_getElem hj]
      rfl
    have hy : ((spansOf f).take (f.marks.length + j))[f.marks.length + i]? = some (slotS f.slots[i]) := by
      rw [List.getElem?_take, if_pos (by omega)]
      unfold spansOf
      rw [List.getElem?_append_right (by simp), List.length_map, List.getElem?_map, Nat.add_sub_cancel_left, List.getElem?_eq_getElem hi]
      rfl
    have hs := g.span _ _ hx
    simp only [spanOk, Bool.and_eq_true, Bool.not_eq_true', List.any_eq_false] at hs
    have hm := hs.2 _ (List.mem_of_getElem? hy)
    obtain ⟨_, _, _, _, _, s1, s2, s3, s4, s5⟩ := g.slotAt (List.getElem_mem hi)
    obtain ⟨_, _, _, _, _, t1, t2, t3, t4, t5⟩ := g.slotAt (List.getElem_mem hj)
    unfold inS at h1 h2
    generalize f.slots[i] = x at *
    generalize f.slots[j] = y at *
    refine hm ?_
    obtain ⟨u1, u2, u3⟩ := h1
    obtain ⟨v1, v2, v3⟩ := h2
    simp only [meets, slotS, Bool.and_eq_true, decide_eq_true_eq]
    exact ⟨⟨decide_eq_true (by omega), decide_eq_true (by omega)⟩, decide_eq_true (by omega)⟩
set_option maxHeartbeats 4000000 in
theorem l45_0 {lo : Nat} (f : Form) (g : FormG f) (la : AV) (n : Nat) (K X0 : Heap) (a0 : AV) (h0 : PicAt lo (K ++ X0) a0 (blankP f)) (st : St) (hE : keepEnv st.1 [1, 2, 5, 19, 20, 21] = [(1, la), (2, .ptr n 0 4 0 0), (5, a0), (19, eMarks f.marks), (20, .int .i64 (f.marks.length : Int)), (21, .int .i64 0)]) (hH : st.2 = K ++ X0) (z : Option (CX × St)) (hz : itLim (evCode (evC cprog) itLim c45_l0) st = z) :
    ∃ T X a, z = some (.exit 0, T, K ++ X) ∧ keepEnv T [1, 2, 5] = [(1, la), (2, .ptr n 0 4 0 0), (5, a)] ∧ PicAt lo (K ++ X) a (baseP f) := by
  have hnm := g.nm
  have hrl := g.rlo
  have hrh := g.rhi
  have hch := g.chi
  have L := loop_rule (σ := Nat × AV × Heap) (m := [1, 2, 5, 19, 20, 21]) (env := fun s => [(1, la), (2, .ptr n 0 4 0 0), (5, s.2.1), (19, eMarks f.marks), (20, .int .i64 (f.marks.length : Int)), (21, .int .i64 (s.1 : Int))]) (hp := fun s => K ++ s.2.2)
    (P := fun _ r => ∃ T X a, r = (.exit 0, T, K ++ X) ∧ keepEnv T [1, 2, 5] = [(1, la), (2, .ptr n 0 4 0 0), (5, a)] ∧ PicAt lo (K ++ X) a (baseP f))
    (mu := fun s => f.marks.length - s.1) (I := fun s => s.1 ≤ f.marks.length ∧ PicAt lo (K ++ s.2.2) s.2.1 ((f.marks.take s.1).foldl layM (blankP f))) (evCode (evC cprog) itLim c45_l0) ?_ (0, a0, X0) st ⟨Nat.zero_le _, h0⟩ hE hH z hz
  · obtain ⟨_, rfl, T, X, a, rfl, h⟩ := L
    exact ⟨T, X, a, rfl, h⟩
  · rintro ⟨i, a, X⟩ ⟨hi, hP⟩ E hE
    simp only at hi hP hE
    by_cases hlt : i < f.marks.length
    · obtain ⟨m, hx⟩ : ∃ m, f.marks[i]? = some m := ⟨_, List.getElem?_eq_getElem hlt⟩
      have hil : (i : Int) < (f.marks.length : Int) := by omega
      have ha := aMark hx
      have hm := List.mem_of_getElem? hx
      obtain ⟨m1, m2, m3, m4⟩ := g.markAt hm
      have hd := marks_dim g (f.marks.take i) (fun x hx => List.mem_of_mem_take hx) _ (blank_dim f)
      have h49 := f49 (K ++ (X ++ [bMark m])) a _ f.rows.toNat f.cols.toNat m.row.toNat m.col.toNat hd (by rw [← List.append_assoc]; exact hP.more _) (by omega) m.text (by omega) (by omega) (by omega)
      rw [Int.toNat_of_nonneg m1, Int.toNat_of_nonneg m3] at h49
      have hstep : (f.marks.take (i + 1)).foldl layM (blankP f) = lay ((f.marks.take i).foldl layM (blankP f)) m.row.toNat m.col.toNat m.text := by
        rw [List.take_add_one, hx, Option.toList_some, List.foldl_append]
        rfl
      have hd' := hd.lay (r := m.row.toNat) (c := m.col.toNat) (s := m.text) (by omega) (by omega)
      have hlp := hd'.len
      rw [← hstep] at h49 hlp
      have hw := wrapS hlt (by omega)
      simp only [bMark, rMark] at h49
      clear hP hd hd' m1 m2 m3 m4 hstep
      generalize hg : (f.marks.take (i + 1)).foldl layM (blankP f) = p' at *
      generalize hq : (f.marks.take i).foldl layM (blankP f) = p at *
      simp only [c45_l0, hE, hil, ha, rMark, h49, hw, evX, Int.reduceEq, Int.reduceLT, Int.reduceLE, Nat.reduceMul, Nat.reduceMod, evW, fn_eq, evR, Nat.reduceAdd, Nat.reduceLT, Nat.reduceLeDiff, reduceIte, Nat.reduceEqDiff, reduceCtorEq, argEnv, eq_self, if_true, if_false]
      repeat' ((first | rw [guardK_cases] | rw [condK_bool] | rw [guardD_cases]); split <;> simp only [c45_l0, hE, hil, ha, rMark, h49, hw, evX, Int.reduceEq, Int.reduceLT, Int.reduceLE, Nat.reduceMul, Nat.reduceMod, evW, evR, Nat.reduceAdd, Nat.reduceLT, Nat.reduceLeDiff, reduceIte, Nat.reduceEqDiff, reduceCtorEq, argEnv, eq_self, if_true, if_false, *])
      refine q_next (i + 1, eStrs p', X ++ [bMark m]) (by rfl) (by simp [bMark, rMark]) ⟨hlt, ?_⟩ (by simp only; omega) fun r h => h
      simp only
      rw [hg]
      exact .lst (by omega) _
    · have hil : ¬ (i : Int) < (f.marks.length : Int) := by omega
      rw [List.take_of_length_le (by omega)] at hP
      simp only [c45_l0, hE, hil, evX, Int.reduceEq, Int.reduceLT, Int.reduceLE, Nat.reduceMul, Nat.reduceMod, evW, fn_eq, evR, Nat.reduceAdd, Nat.reduceLT, Nat.reduceLeDiff, reduceIte, Nat.reduceEqDiff, reduceCtorEq, argEnv, eq_self, if_true, if_false]
      repeat' ((first | rw [guardK_cases] | rw [condK_bool] | rw [guardD_cases]); split <;> simp only [c45_l0, hE, hil, evX, Int.reduceEq, Int.reduceLT, Int.reduceLE, Nat.reduceMul, Nat.reduceMod, evW, evR, Nat.reduceAdd, Nat.reduceLT, Nat.reduceLeDiff, reduceIte, Nat.reduceEqDiff, reduceCtorEq, argEnv, eq_self, if_true, if_false, *])
      exact q_exit ⟨_, X, a, rfl, by rfl, hP⟩
theorem slS {H : Heap} {a : AV} {l : List ByteArray} (h : SlAt H 1 a (l.map rS)) {i : Nat} {s : ByteArray} (hi : l[i]? = some s) : ∃ p, iaddrK 1 (some a) (some (.int .i64 (i : Int))) = some p ∧ ∀ X, loadK false 1 (H ++ X) (some p) = some (.str s) := by
  obtain ⟨_, p, h1, h2⟩ := h.get i (rS s) (by rw [List.getElem?_map, hi]; rfl)
  exact ⟨p, h1, fun X => h2.onex X⟩
theorem rowP_lt {l : List ByteArray} {k : Nat} (h : k < l.length) : l[k]? = some (rowP l k) := by
  rw [List.getElem?_eq_getElem h, rowP, List.getElem?_eq_getElem h]
  rfl
theorem txt_ok {f : Form} {l : List ByteArray} (hb : l.any badT = false) (s : Slot) : (txtOf l s).size ≤ 200 ∧ isText (txtOf l s) = true := by
  unfold txtOf
  split
  · exact ⟨by show 0 ≤ 200; omega, rfl⟩
  · unfold rowP
    cases h : l[s.out.toNat]? with
    | none => exact ⟨by show 0 ≤ 200; omega, rfl⟩
    | some t =>
      have := List.any_eq_false.1 hb t (List.mem_of_getElem? h)
      simp [badT] at this
      exact ⟨by simp only [Option.getD_some]; omega, by simpa using this.2⟩
set_option maxHeartbeats 8000000 in
theorem l45_1 {lo : Nat} (f : Form) (g : FormG f) (l : List ByteArray) (la : AV) (hs : ∀ s ∈ f.slots, s.out < (l.length : Int)) (hb : l.any badT = false) (K X0 : Heap) (hla : SlAt K 1 la (l.map rS)) (a0 : AV) (h0 : PicAt lo (K ++ X0) a0 (baseP f)) (st : St) (hE : keepEnv st.1 [1, 5, 35, 36, 37] = [(1, la), (5, a0), (35, eSlots f.slots), (36, .int .i64 (f.slots.length : Int)), (37, .int .i64 0)]) (hH : st.2 = K ++ X0) (z : Option (CX × St)) (hz : itLim (evCode (evC cprog) itLim c45_l1) st = z) :
    ∃ T X a, z = some (.exit 2, T, K ++ X) ∧ keepEnv T [5] = [(5, a)] ∧ PicAt lo (K ++ X) a (showP f l) := by
  have hnm := g.sl
  have hrl := g.rlo
  have hrh := g.rhi
  have hch := g.chi
  have hap := apart_of g
  have hbd := base_dim g
  have L := loop_rule (σ := Nat × AV × Heap) (m := [1, 5, 35, 36, 37]) (env := fun s => [(1, la), (5, s.2.1), (35, eSlots f.slots), (36, .int .i64 (f.slots.length : Int)), (37, .int .i64 (s.1 : Int))]) (hp := fun s => K ++ s.2.2)
    (P := fun _ r => ∃ T X a, r = (.exit 2, T, K ++ X) ∧ keepEnv T [5] = [(5, a)] ∧ PicAt lo (K ++ X) a (showP f l))
    (mu := fun s => f.slots.length - s.1) (I := fun s => s.1 ≤ f.slots.length ∧ Dim (laysF (fillG l) (f.slots.take s.1) (baseP f)) f.rows.toNat f.cols.toNat ∧ PicAt lo (K ++ s.2.2) s.2.1 (laysF (fillG l) (f.slots.take s.1) (baseP f))) (evCode (evC cprog) itLim c45_l1) ?_ (0, a0, X0) st ⟨Nat.zero_le _, hbd, h0⟩ hE hH z hz
  · obtain ⟨_, rfl, T, X, a, rfl, h⟩ := L
    exact ⟨T, X, a, rfl, h⟩
  · rintro ⟨i, a, X⟩ ⟨hi, hd, hP⟩ E hE
    simp only at hi hd hP hE
    by_cases hlt : i < f.slots.length
    · obtain ⟨x, hx⟩ : ∃ x, f.slots[i]? = some x := ⟨_, List.getElem?_eq_getElem hlt⟩
      have hil : (i : Int) < (f.slots.length : Int) := by omega
      have ha := aSlot hx
      have hm := List.mem_of_getElem? hx
      obtain ⟨_, _, o1, o2, hfo, s1, s2, s3, s4, s5⟩ := g.slotAt hm
      have hsz := filled_size x (txtOf l x)
      have h49 := f49 (K ++ (X ++ [bSlot x])) a _ f.rows.toNat f.cols.toNat x.row.toNat x.col.toNat hd (by rw [← List.append_assoc]; exact hP.more _) (by omega) (fillG l x) (by unfold fillG; rw [hsz]; omega) (by omega) (by omega)
      rw [Int.toNat_of_nonneg s1, Int.toNat_of_nonneg s3] at h49
      have hstep : laysF (fillG l) (f.slots.take (i + 1)) (baseP f) = lay (laysF (fillG l) (f.slots.take i) (baseP f)) x.row.toNat x.col.toNat (fillG l x) := by
        unfold laysF
        rw [List.take_add_one, hx, Option.toList_some, List.foldl_append]
        rfl
      have hd' := hd.lay (r := x.row.toNat) (c := x.col.toNat) (s := fillG l x) (by omega) (by unfold fillG; rw [hsz]; omega)
      have hlp := hd'.len
      rw [← hstep] at h49 hlp hd'
      have h92 := fun K => f92 x s4 (by omega) (txtOf l x) (by have := (txt_ok (f := f) hb x).1; omega) K
      have hw := wrapS hlt (by omega)
      have hft : filledB x (txtOf l x) = fillG l x := rfl
      simp only [bSlot, rSlot, hft] at h49 h92
      clear hP hd s1 s2 s3 s4 s5 hstep hsz hft
      have hq := hs x hm
      have fin : ∀ p', PicAt lo (K ++ (X ++ [bSlot x])) (eStrs p') p' ∨ ¬ 0 < p'.length := fun p' => by
        by_cases h : 0 < p'.length
        · exact .inl (.lst h _)
        · exact .inr h
      by_cases ho : x.out < 0
      · have ho' : ¬ 0 ≤ x.out := by omega
        have ht : txtOf l x = ⟨#[]⟩ := if_pos ho
        rw [ht] at h92
        clear ht ho hq
        generalize hg1 : laysF (fillG l) (f.slots.take (i + 1)) (baseP f) = p' at *
        generalize laysF (fillG l) (f.slots.take i) (baseP f) = p at *
        generalize fillG l x = fg at *
        simp only [c45_l1, hE, hil, ha, rSlot, ho', h92, h49, hw, evX, Int.reduceEq, Int.reduceLT, Int.reduceLE, Nat.reduceMul, Nat.reduceMod, evW, fn_eq, evR, Nat.reduceAdd, Nat.reduceLT, Nat.reduceLeDiff, reduceIte, Nat.reduceEqDiff, reduceCtorEq, argEnv, eq_self, if_true, if_false]
        repeat' ((first | rw [guardK_cases] | rw [condK_bool] | rw [guardD_cases]); split <;> simp only [c45_l1, hE, hil, ha, rSlot, ho', h92, h49, hw, evX, Int.reduceEq, Int.reduceLT, Int.reduceLE, Nat.reduceMul, Nat.reduceMod, evW, evR, Nat.reduceAdd, Nat.reduceLT, Nat.reduceLeDiff, reduceIte, Nat.reduceEqDiff, reduceCtorEq, argEnv, eq_self, if_true, if_false, *])
        refine q_next (i + 1, eStrs p', X ++ [bSlot x]) (by rfl) (by simp [bSlot, rSlot]) ⟨hlt, by simp only; rw [hg1]; exact hd', by simp only; rw [hg1]; exact (fin p').resolve_right (fun h => h (by omega))⟩ (by simp only; omega) fun r h => h
      · have ho' : 0 ≤ x.out := by omega
        have ht : txtOf l x = rowP l x.out.toNat := if_neg ho
        obtain ⟨pp, hal, hld⟩ := slS hla (rowP_lt (l := l) (k := x.out.toNat) (by omega))
        rw [Int.toNat_of_nonneg ho'] at hal
        rw [← ht] at hld
        clear ht ho hq
        generalize hg1 : laysF (fillG l) (f.slots.take (i + 1)) (baseP f) = p' at *
        generalize laysF (fillG l) (f.slots.take i) (baseP f) = p at *
        generalize fillG l x = fg at *
        generalize txtOf l x = tx at *
        simp only [c45_l1, hE, hil, ha, rSlot, ho', hal, hld, h92, h49, hw, evX, Int.reduceEq, Int.reduceLT, Int.reduceLE, Nat.reduceMul, Nat.reduceMod, evW, fn_eq, evR, Nat.reduceAdd, Nat.reduceLT, Nat.reduceLeDiff, reduceIte, Nat.reduceEqDiff, reduceCtorEq, argEnv, eq_self, if_true, if_false]
        repeat' ((first | rw [guardK_cases] | rw [condK_bool] | rw [guardD_cases]); split <;> simp only [c45_l1, hE, hil, ha, rSlot, ho', hal, hld, h92, h49, hw, evX, Int.reduceEq, Int.reduceLT, Int.reduceLE, Nat.reduceMul, Nat.reduceMod, evW, evR, Nat.reduceAdd, Nat.reduceLT, Nat.reduceLeDiff, reduceIte, Nat.reduceEqDiff, reduceCtorEq, argEnv, eq_self, if_true, if_false, *])
        refine q_next (i + 1, eStrs p', X ++ [bSlot x]) (by rfl) (by simp [bSlot, rSlot]) ⟨hlt, by simp only; rw [hg1]; exact hd', by simp only; rw [hg1]; exact (fin p').resolve_right (fun h => h (by omega))⟩ (by simp only; omega) fun r h => h
    · have hil : ¬ (i : Int) < (f.slots.length : Int) := by omega
      rw [List.take_of_length_le (by omega)] at hP
      simp only [c45_l1, hE, hil, evX, Int.reduceEq, Int.reduceLT, Int.reduceLE, Nat.reduceMul, Nat.reduceMod, evW, fn_eq, evR, Nat.reduceAdd, Nat.reduceLT, Nat.reduceLeDiff, reduceIte, Nat.reduceEqDiff, reduceCtorEq, argEnv, eq_self, if_true, if_false]
      repeat' ((first | rw [guardK_cases] | rw [condK_bool] | rw [guardD_cases]); split <;> simp only [c45_l1, hE, hil, evX, Int.reduceEq, Int.reduceLT, Int.reduceLE, Nat.reduceMul, Nat.reduceMod, evW, evR, Nat.reduceAdd, Nat.reduceLT, Nat.reduceLeDiff, reduceIte, Nat.reduceEqDiff, reduceCtorEq, argEnv, eq_self, if_true, if_false, *])
      exact q_exit ⟨_, X, a, rfl, by rfl, hP⟩
end Go.Proofs.Ytondenmkhfignaa.Code

/- screen: Show; which lists are pictures. -/
set_option linter.unusedSimpArgs false
set_option linter.unusedVariables false
namespace Go.Proofs.Ytondenmkhfignaa.Code
open Go.Proofs.Ytondenmkhfignaa.Ev

theorem mks_strs (K : Heap) (n : Nat) (h0 : 0 < n) (h : n ≤ 1000) : mksK 9 1 16 [.str ⟨#[]⟩] K (some (.int .i64 (n : Int))) (some (.int .i64 (n : Int))) = some (.ref K.length 0 1 0 n, K ++ [⟨0, true, 9, 1, (List.replicate n (⟨#[]⟩ : ByteArray)).map rS⟩]) := by
  simp only [mksK, asNat_cast]
  rw [if_pos ⟨Nat.le_refl _, by unfold reach; omega, by unfold reach; omega, rfl, h0⟩]
  simp [rS]
theorem mks_none (K : Heap) : mksK 9 1 16 [.str ⟨#[]⟩] K (some (.int .i64 0)) (some (.int .i64 0)) = some (.nil0, K) := rfl
set_option maxHeartbeats 4000000 in
theorem f45 (f : Form) (g : FormG f) (l : List ByteArray) (la : AV) (hs : ∀ s ∈ f.slots, s.out < (l.length : Int)) (hb : l.any badT = false) (hcl : la.cells = [la]) (htl : la.isTup = false) (H : Heap) (hla : SlAt H 1 la (l.map rS)) : cal (evC cprog) true 45 [eForm f, la] H = some (eStrs (showP f l), H) := by
  rw [cal_of at45]
  have hl1 := (sMarks [] f.marks).len
  have hl2 := (sSlots [] f.slots).len
  simp only [List.length_map] at hl1 hl2
  have hrl := g.rlo
  have hrh := g.rhi
  have hcl' := g.clo
  have hch := g.chi
  have h91 := fun K => f91 32 f.cols.toNat (by omega) K
  rw [Int.toNat_of_nonneg (by omega)] at h91
  obtain ⟨K, hK⟩ : ∃ K : Heap, K = H ++ [bForm f] := ⟨_, rfl⟩
  have kt : ∀ Z, (K ++ Z).take H.length = H := fun Z => by rw [hK]; simp
  have kb : ∀ Z, (K ++ Z)[H.length]? = some (bForm f) := fun Z => by rw [hK]; simp
  have kl : K.length = H.length + 1 := by rw [hK]; simp
  have h90 := f90 (repB 32 f.cols.toNat) f.rows.toNat (by omega) (by omega) K.length (K ++ [⟨0, true, 9, 1, [[.str (repB 32 f.cols.toNat)]]⟩]) (by simp)
  rw [Int.toNat_of_nonneg (by omega)] at h90
  have hP0 : PicAt H.length (K ++ [⟨0, true, 9, 1, [[.str (repB 32 f.cols.toNat)]]⟩, ⟨0, true, 9, 1, List.replicate f.rows.toNat [.str (repB 32 f.cols.toNat)]⟩]) (.ref (K.length + 1) 0 1 0 f.rows.toNat) (blankP f) := .ref (by omega) (by simp [blankP]) (by omega) (by simp [blankP, rS])
  have hK2 := hK
  simp only [bForm] at hK2 kb
  rw [hK2] at h90
  simp only [List.append_assoc, List.cons_append, List.nil_append, List.length_append, List.length_cons, List.length_nil, Nat.zero_add, Nat.reduceAdd, Nat.add_assoc] at h90
  simp only [c45, eForm, hcl, htl, h91, h90, hl1, evX, Int.reduceEq, Int.reduceLT, Int.reduceLE, Nat.reduceMul, Nat.reduceMod, evW, fn_eq, evR, Nat.reduceAdd, Nat.reduceLT, Nat.reduceLeDiff, reduceIte, Nat.reduceEqDiff, reduceCtorEq, argEnv, eq_self, if_true, if_false]
  repeat' ((first | rw [guardK_cases] | rw [condK_bool] | rw [guardD_cases]); split <;> simp only [c45, eForm, hcl, htl, h91, h90, hl1, evX, Int.reduceEq, Int.reduceLT, Int.reduceLE, Nat.reduceMul, Nat.reduceMod, evW, evR, Nat.reduceAdd, Nat.reduceLT, Nat.reduceLeDiff, reduceIte, Nat.reduceEqDiff, reduceCtorEq, argEnv, eq_self, if_true, if_false, *])
  generalize hz : itLim _ _ = z
  obtain ⟨T, X, a, rfl, hT, hP⟩ := l45_0 f g la H.length K _ _ hP0 _ (by rw [kl]; rfl) (by rw [hK]; simp [bForm]) z hz
  clear hz hP0
  simp only [hT, kb, hl2, evX, Int.reduceEq, Int.reduceLT, Int.reduceLE, Nat.reduceMul, Nat.reduceMod, evW, fn_eq, evR, Nat.reduceAdd, Nat.reduceLT, Nat.reduceLeDiff, reduceIte, Nat.reduceEqDiff, reduceCtorEq, argEnv, eq_self, if_true, if_false]
  repeat' ((first | rw [guardK_cases] | rw [condK_bool] | rw [guardD_cases]); split <;> simp only [hT, kb, hl2, evX, Int.reduceEq, Int.reduceLT, Int.reduceLE, Nat.reduceMul, Nat.reduceMod, evW, evR, Nat.reduceAdd, Nat.reduceLT, Nat.reduceLeDiff, reduceIte, Nat.reduceEqDiff, reduceCtorEq, argEnv, eq_self, if_true, if_false, *])
  generalize hz : itLim _ _ = z
  obtain ⟨T, X, a, rfl, hT, hP⟩ := l45_1 f g l la hs hb K X (by rw [hK]; exact hla.app _) a hP _ (by rfl) rfl z hz
  clear hz
  obtain ⟨ids, g1, g2⟩ := hP.fz' []
  rw [List.append_nil] at g1
  have hsc := hP.sc
  have ht := kt X
  have htup : a.isTup = false := by cases a <;> first | rfl | simp [AV.scal] at hsc
  generalize K ++ X = Z at *
  simp only [hT, htup, evX, Int.reduceEq, Int.reduceLT, Int.reduceLE, Nat.reduceMul, Nat.reduceMod, evW, fn_eq, evR, Nat.reduceAdd, Nat.reduceLT, Nat.reduceLeDiff, reduceIte, Nat.reduceEqDiff, reduceCtorEq, argEnv, eq_self, if_true, if_false]
  repeat' ((first | rw [guardK_cases] | rw [condK_bool] | rw [guardD_cases]); split <;> simp only [hT, htup, evX, Int.reduceEq, Int.reduceLT, Int.reduceLE, Nat.reduceMul, Nat.reduceMod, evW, evR, Nat.reduceAdd, Nat.reduceLT, Nat.reduceLeDiff, reduceIte, Nat.reduceEqDiff, reduceCtorEq, argEnv, eq_self, if_true, if_false, *])
  exact frz_one g1 hsc ht g2
theorem f10 (f : Form) (g : FormG f) (l : List ByteArray) (hl : l.length < 9223372036854775807) (hs : ∀ s ∈ l, s.size < 9223372036854775807) (H : Heap) : cal (evC cprog) true 10 [eForm f, eStrs l] H = some (.tup [if showE f l = 0 then eStrs (showP f l) else eStrs [], .int .i64 (showE f l)], H) := by
  rw [cal_of at10]
  have h44 := f44 f g l hl hs
  simp only [eForm] at h44
  have hcl : (eStrs l).cells = [eStrs l] := rfl
  have htl : (eStrs l).isTup = false := rfl
  by_cases he : showE f l = 0
  · rw [if_pos he, he]
    rw [he] at h44
    have hok : (l.length : Int) = mxI Slot.out f.slots ∧ l.any badT = false := by
      unfold showE at he
      split at he
      · assumption
      · cases he
    have hlt : ∀ s ∈ f.slots, s.out < (l.length : Int) := fun s h => by
      rw [hok.1]
      have := (mx_ge Slot.out f.slots 0).2.1 s h
      unfold mxI
      omega
    have h45 := fun K => f45 f g l (eStrs l) hlt hok.2 rfl rfl K (sStrs K l)
    simp only [eForm] at h45
    have ht2 : (eStrs (showP f l)).isTup = false := rfl
    simp only [c10, eForm, hcl, htl, h44, h45, ht2, evX, Int.reduceEq, Int.reduceLT, Int.reduceLE, Nat.reduceMul, Nat.reduceMod, evW, fn_eq, evR, Nat.reduceAdd, Nat.reduceLT, Nat.reduceLeDiff, reduceIte, Nat.reduceEqDiff, reduceCtorEq, argEnv, eq_self, if_true, if_false]
    repeat' ((first | rw [guardK_cases] | rw [condK_bool] | rw [guardD_cases]); split <;> simp only [c10, eForm, hcl, htl, h44, h45, ht2, evX, Int.reduceEq, Int.reduceLT, Int.reduceLE, Nat.reduceMul, Nat.reduceMod, evW, evR, Nat.reduceAdd, Nat.reduceLT, Nat.reduceLeDiff, reduceIte, Nat.reduceEqDiff, reduceCtorEq, argEnv, eq_self, if_true, if_false, *])
    exact frz_two (ids := []) rfl rfl (by simp) (by simp) _ _
  · rw [if_neg he]
    have he' : (showE f l = 0) = False := eq_false he
    simp only [c10, eForm, hcl, htl, h44, he', evX, Int.reduceEq, Int.reduceLT, Int.reduceLE, Nat.reduceMul, Nat.reduceMod, evW, fn_eq, evR, Nat.reduceAdd, Nat.reduceLT, Nat.reduceLeDiff, reduceIte, Nat.reduceEqDiff, reduceCtorEq, argEnv, eq_self, if_true, if_false]
    repeat' ((first | rw [guardK_cases] | rw [condK_bool] | rw [guardD_cases]); split <;> simp only [c10, eForm, hcl, htl, h44, he', evX, Int.reduceEq, Int.reduceLT, Int.reduceLE, Nat.reduceMul, Nat.reduceMod, evW, evR, Nat.reduceAdd, Nat.reduceLT, Nat.reduceLeDiff, reduceIte, Nat.reduceEqDiff, reduceCtorEq, argEnv, eq_self, if_true, if_false, *])
    exact frz_two (fz_nils _) rfl (by simp) (by simp) _ _
end Go.Proofs.Ytondenmkhfignaa.Code

/- screen: which lists are pictures. -/
set_option linter.unusedSimpArgs false
set_option linter.unusedVariables false
namespace Go.Proofs.Ytondenmkhfignaa.Code
open Go.Proofs.Ytondenmkhfignaa.Ev

def badR (f : Form) (s : ByteArray) : Bool := !decide ((s.size : Int) = f.cols) || !isText s
theorem f97 (f : Form) (s : ByteArray) (hs : s.size < 9223372036854775807) (b : Nat) (H : Heap) (hb : H[b]? = some (bForm f)) : cal (evC cprog) false 97 [.str s, .ptr b 0 4 0 0] H = some (.bool (badR f s), H) := by
  rw [cal_of at97]
  have hb' := hb
  have h := f89 s hs
  simp only [bForm] at hb'
  by_cases c1 : (s.size : Int) = f.cols
  · have c1' : ((s.size : Int) = f.cols) = True := eq_true c1
    have e : badR f s = !isText s := by unfold badR; rw [decide_eq_true c1]; rfl
    rw [e]
    clear c1 e
    simp only [c97, hb', c1', h, evX, Int.reduceEq, Int.reduceLT, Int.reduceLE, Nat.reduceMul, Nat.reduceMod, evW, fn_eq, evR, Nat.reduceAdd, Nat.reduceLT, Nat.reduceLeDiff, reduceIte, Nat.reduceEqDiff, reduceCtorEq, argEnv, eq_self, if_true, if_false]
    repeat' ((first | rw [guardK_cases] | rw [condK_bool] | rw [guardD_cases]); split <;> simp only [c97, hb', c1', h, evX, Int.reduceEq, Int.reduceLT, Int.reduceLE, Nat.reduceMul, Nat.reduceMod, evW, evR, Nat.reduceAdd, Nat.reduceLT, Nat.reduceLeDiff, reduceIte, Nat.reduceEqDiff, reduceCtorEq, argEnv, eq_self, if_true, if_false, *])
  · have c1' : ((s.size : Int) = f.cols) = False := eq_false c1
    have e : badR f s = true := by unfold badR; rw [decide_eq_false c1]; rfl
    rw [e]
    clear c1 e
    simp only [c97, hb', c1', evX, Int.reduceEq, Int.reduceLT, Int.reduceLE, Nat.reduceMul, Nat.reduceMod, evW, fn_eq, evR, Nat.reduceAdd, Nat.reduceLT, Nat.reduceLeDiff, reduceIte, Nat.reduceEqDiff, reduceCtorEq, argEnv, eq_self, if_true, if_false]
    repeat' ((first | rw [guardK_cases] | rw [condK_bool] | rw [guardD_cases]); split <;> simp only [c97, hb', c1', evX, Int.reduceEq, Int.reduceLT, Int.reduceLE, Nat.reduceMul, Nat.reduceMod, evW, evR, Nat.reduceAdd, Nat.reduceLT, Nat.reduceLeDiff, reduceIte, Nat.reduceEqDiff, reduceCtorEq, argEnv, eq_self, if_true, if_false, *])
theorem f87' (f : Form) (l : List ByteArray) (hl : l.length < 9223372036854775807) (hs : ∀ s ∈ l, s.size < 9223372036854775807) (b : Nat) (H : Heap) (hb : H[b]? = some (bForm f)) : cal (evC cprog) false 87 [eStrs l, .fn 97 [.ptr b 0 4 0 0]] H = some (.bool (l.any (badR f)), H) :=
  containsFunc_ok (g := 152) at87 (indexFunc_ok (sz := 1) (ag := false) at152 rS (fun s => .str s) lS 97 [_] (badR f) H _ l (sStrs H l) hl fun s h => f97 f s (hs s h) b H hb)
/-- pictures of a form -/
abbrev PicF (f : Form) (p : List ByteArray) : Prop := Pic f.slots (baseP f) f.rows.toNat f.cols.toNat p
theorem pic_len {f : Form} (g : FormG f) {p : List ByteArray} (hp : PicF f p) : p.length ≤ 12 ∧ 0 < p.length ∧ (p.length : Int) = f.rows ∧ (∀ s ∈ p, s.size ≤ 40) ∧ p.any (badR f) = false := by
  have h1 := hp.dim.len
  have := g.rlo
  have := g.rhi
  have := g.clo
  have := g.chi
  refine ⟨by omega, by omega, by omega, fun s hs => by have := hp.dim.row s hs; omega, ?_⟩
  rw [List.any_eq_false]
  intro s hs
  unfold badR
  rw [hp.txt s hs, decide_eq_true (by have := hp.dim.row s hs; omega)]
  simp
theorem f47 (f : Form) (g : FormG f) (p : List ByteArray) (hp : PicF f p) (H : Heap) : cal (evC cprog) false 47 [eForm f, eStrs p] H = some (.bool true, H) := by
  rw [cal_of at47]
  obtain ⟨p1, p2, p3, p4, p5⟩ := pic_len g hp
  have h87 := f87' f p (by omega) (fun s h => by have := p4 s h; omega) H.length (H ++ [bForm f]) (by simp)
  rw [p5] at h87
  have hlen := (sStrs [] p).len
  simp only [List.length_map] at hlen
  have hcl : (eStrs p).cells = [eStrs p] := rfl
  have htl : (eStrs p).isTup = false := rfl
  have c1' : ((p.length : Int) = f.rows) = True := eq_true p3
  simp only [bForm] at h87
  clear p1 p2 p3 p4 p5
  simp only [c47, eForm, hcl, htl, hlen, c1', h87, scal_ptr, evX, Int.reduceEq, Int.reduceLT, Int.reduceLE, Nat.reduceMul, Nat.reduceMod, evW, fn_eq, evR, Nat.reduceAdd, Nat.reduceLT, Nat.reduceLeDiff, reduceIte, Nat.reduceEqDiff, reduceCtorEq, argEnv, eq_self, if_true, if_false]
  repeat' ((first | rw [guardK_cases] | rw [condK_bool] | rw [guardD_cases]); split <;> simp only [c47, eForm, hcl, htl, hlen, c1', h87, scal_ptr, evX, Int.reduceEq, Int.reduceLT, Int.reduceLE, Nat.reduceMul, Nat.reduceMod, evW, evR, Nat.reduceAdd, Nat.reduceLT, Nat.reduceLeDiff, reduceIte, Nat.reduceEqDiff, reduceCtorEq, argEnv, eq_self, if_true, if_false, *])
theorem f51 (f : Form) (g : FormG f) (p : List ByteArray) (hp : PicF f p) (H : Heap) : cal (evC cprog) false 51 [eForm f, eStrs p] H = some (.int .i64 0, H) := by
  rw [cal_of at51]
  have h46 := f46 f g
  have h47 := f47 f g p hp
  have hcl : (eStrs p).cells = [eStrs p] := rfl
  have htl : (eStrs p).isTup = false := rfl
  simp only [eForm] at h46 h47
  simp only [c51, eForm, hcl, htl, h46, h47, evX, Int.reduceEq, Int.reduceLT, Int.reduceLE, Nat.reduceMul, Nat.reduceMod, evW, fn_eq, evR, Nat.reduceAdd, Nat.reduceLT, Nat.reduceLeDiff, reduceIte, Nat.reduceEqDiff, reduceCtorEq, argEnv, eq_self, if_true, if_false]
  repeat' ((first | rw [guardK_cases] | rw [condK_bool] | rw [guardD_cases]); split <;> simp only [c51, eForm, hcl, htl, h46, h47, evX, Int.reduceEq, Int.reduceLT, Int.reduceLE, Nat.reduceMul, Nat.reduceMod, evW, evR, Nat.reduceAdd, Nat.reduceLT, Nat.reduceLeDiff, reduceIte, Nat.reduceEqDiff, reduceCtorEq, argEnv, eq_self, if_true, if_false, *])
theorem f50 (p : List ByteArray) (hl : p.length < 9223372036854775807) (H : Heap) : cal (evC cprog) false 50 [eStrs p, eStrs p] H = some (.bool true, H) := by
  rw [cal_of at50]
  have hlen := (sStrs [] p).len
  simp only [List.length_map] at hlen
  simp only [c50, hlen, evX, Int.reduceEq, Int.reduceLT, Int.reduceLE, Nat.reduceMul, Nat.reduceMod, evW, fn_eq, evR, Nat.reduceAdd, Nat.reduceLT, Nat.reduceLeDiff, reduceIte, Nat.reduceEqDiff, reduceCtorEq, argEnv, eq_self, if_true, if_false]
  repeat' ((first | rw [guardK_cases] | rw [condK_bool] | rw [guardD_cases]); split <;> simp only [c50, hlen, evX, Int.reduceEq, Int.reduceLT, Int.reduceLE, Nat.reduceMul, Nat.reduceMod, evW, evR, Nat.reduceAdd, Nat.reduceLT, Nat.reduceLeDiff, reduceIte, Nat.reduceEqDiff, reduceCtorEq, argEnv, eq_self, if_true, if_false, *])
  generalize hz : itLim _ _ = z
  have L := all_rule p (fun _ => true) [0, 1, 12, 13] (fun i => [(0, eStrs p), (1, eStrs p), (12, .int .i64 (p.length : Int)), (13, .int .i64 (i : Int))]) H [] (evCode (evC cprog) itLim c50_l0) (fun c T => c = .exit 0) (fun c T => False)
    (fun i x hx E G hE => by
      have hlt : i < p.length := (List.getElem?_eq_some_iff.1 hx).1
      have hi : (i : Int) < (p.length : Int) := by omega
      have ha := aS hx
      simp only [c50_l0, hE, hi, ha, rS, beq_self_eq_true, wrapS hlt hl, evX, Int.reduceEq, Int.reduceLT, Int.reduceLE, Nat.reduceMul, Nat.reduceMod, evW, fn_eq, evR, Nat.reduceAdd, Nat.reduceLT, Nat.reduceLeDiff, reduceIte, Nat.reduceEqDiff, reduceCtorEq, argEnv, eq_self, if_true, if_false]
      repeat' ((first | rw [guardK_cases] | rw [condK_bool] | rw [guardD_cases]); split <;> simp only [c50_l0, hE, hi, ha, rS, beq_self_eq_true, wrapS hlt hl, evX, Int.reduceEq, Int.reduceLT, Int.reduceLE, Nat.reduceMul, Nat.reduceMod, evW, evR, Nat.reduceAdd, Nat.reduceLT, Nat.reduceLeDiff, reduceIte, Nat.reduceEqDiff, reduceCtorEq, argEnv, eq_self, if_true, if_false, *])
      exact Sc.next rfl (by rfl))
    (fun E G hE => by
      simp only [c50_l0, hE, Int.lt_irrefl, evX, Int.reduceEq, Int.reduceLT, Int.reduceLE, Nat.reduceMul, Nat.reduceMod, evW, fn_eq, evR, Nat.reduceAdd, Nat.reduceLT, Nat.reduceLeDiff, reduceIte, Nat.reduceEqDiff, reduceCtorEq, argEnv, eq_self, if_true, if_false]
      repeat' ((first | rw [guardK_cases] | rw [condK_bool] | rw [guardD_cases]); split <;> simp only [c50_l0, hE, Int.lt_irrefl, evX, Int.reduceEq, Int.reduceLT, Int.reduceLE, Nat.reduceMul, Nat.reduceMod, evW, evR, Nat.reduceAdd, Nat.reduceLT, Nat.reduceLeDiff, reduceIte, Nat.reduceEqDiff, reduceCtorEq, argEnv, eq_self, if_true, if_false, *])
      exact .exit (K := []) rfl) _ [] (by rfl) (by simp) z hz
  rcases L with ⟨ha, c, T, G, rfl, _, rfl⟩ | ⟨ha, _⟩
  · simp only [evX, Int.reduceEq, Int.reduceLT, Int.reduceLE, Nat.reduceMul, Nat.reduceMod, evW, fn_eq, evR, Nat.reduceAdd, Nat.reduceLT, Nat.reduceLeDiff, reduceIte, Nat.reduceEqDiff, reduceCtorEq, argEnv, eq_self, if_true, if_false]
    repeat' ((first | rw [guardK_cases] | rw [condK_bool] | rw [guardD_cases]); split <;> simp only [evX, Int.reduceEq, Int.reduceLT, Int.reduceLE, Nat.reduceMul, Nat.reduceMod, evW, evR, Nat.reduceAdd, Nat.reduceLT, Nat.reduceLeDiff, reduceIte, Nat.reduceEqDiff, reduceCtorEq, argEnv, eq_self, if_true, if_false, *])
  · simp at ha
theorem f14 (p : List ByteArray) (hl : p.length < 9223372036854775807) (H : Heap) : cal (evC cprog) false 14 [eStrs p, eStrs p] H = some (.bool true, H) := by
  rw [cal_of at14]
  have hlen := (sStrs [] p).len
  simp only [List.length_map] at hlen
  simp only [c14, hlen, evX, Int.reduceEq, Int.reduceLT, Int.reduceLE, Nat.reduceMul, Nat.reduceMod, evW, fn_eq, evR, Nat.reduceAdd, Nat.reduceLT, Nat.reduceLeDiff, reduceIte, Nat.reduceEqDiff, reduceCtorEq, argEnv, eq_self, if_true, if_false]
  repeat' ((first | rw [guardK_cases] | rw [condK_bool] | rw [guardD_cases]); split <;> simp only [c14, hlen, evX, Int.reduceEq, Int.reduceLT, Int.reduceLE, Nat.reduceMul, Nat.reduceMod, evW, evR, Nat.reduceAdd, Nat.reduceLT, Nat.reduceLeDiff, reduceIte, Nat.reduceEqDiff, reduceCtorEq, argEnv, eq_self, if_true, if_false, *])
  generalize hz : itLim _ _ = z
  have L := all_rule p (fun _ => true) [0, 1, 5] (fun i => [(0, eStrs p), (1, eStrs p), (5, .int .i64 (i : Int))]) H [] (evCode (evC cprog) itLim c14_l0) (fun c T => c = .exit 0) (fun c T => False)
    (fun i x hx E G hE => by
      have hlt : i < p.length := (List.getElem?_eq_some_iff.1 hx).1
      have hi : (i : Int) < (p.length : Int) := by omega
      have ha := aS hx
      simp only [c14_l0, hE, hi, hlen, ha, rS, beq_self_eq_true, wrapS hlt hl, evX, Int.reduceEq, Int.reduceLT, Int.reduceLE, Nat.reduceMul, Nat.reduceMod, evW, fn_eq, evR, Nat.reduceAdd, Nat.reduceLT, Nat.reduceLeDiff, reduceIte, Nat.reduceEqDiff, reduceCtorEq, argEnv, eq_self, if_true, if_false]
      repeat' ((first | rw [guardK_cases] | rw [condK_bool] | rw [guardD_cases]); split <;> simp only [c14_l0, hE, hi, hlen, ha, rS, beq_self_eq_true, wrapS hlt hl, evX, Int.reduceEq, Int.reduceLT, Int.reduceLE, Nat.reduceMul, Nat.reduceMod, evW, evR, Nat.reduceAdd, Nat.reduceLT, Nat.reduceLeDiff, reduceIte, Nat.reduceEqDiff, reduceCtorEq, argEnv, eq_self, if_true, if_false, *])
      exact Sc.next rfl (by rfl))
    (fun E G hE => by
      simp only [c14_l0, hE, hlen, Int.lt_irrefl, evX, Int.reduceEq, Int.reduceLT, Int.reduceLE, Nat.reduceMul, Nat.reduceMod, evW, fn_eq, evR, Nat.reduceAdd, Nat.reduceLT, Nat.reduceLeDiff, reduceIte, Nat.reduceEqDiff, reduceCtorEq, argEnv, eq_self, if_true, if_false]
      repeat' ((first | rw [guardK_cases] | rw [condK_bool] | rw [guardD_cases]); split <;> simp only [c14_l0, hE, hlen, Int.lt_irrefl, evX, Int.reduceEq, Int.reduceLT, Int.reduceLE, Nat.reduceMul, Nat.reduceMod, evW, evR, Nat.reduceAdd, Nat.reduceLT, Nat.reduceLeDiff, reduceIte, Nat.reduceEqDiff, reduceCtorEq, argEnv, eq_self, if_true, if_false, *])
      exact .exit (K := []) rfl) _ [] (by rfl) (by simp) z hz
  rcases L with ⟨ha, c, T, G, rfl, _, rfl⟩ | ⟨ha, _⟩
  · simp only [evX, Int.reduceEq, Int.reduceLT, Int.reduceLE, Nat.reduceMul, Nat.reduceMod, evW, fn_eq, evR, Nat.reduceAdd, Nat.reduceLT, Nat.reduceLeDiff, reduceIte, Nat.reduceEqDiff, reduceCtorEq, argEnv, eq_self, if_true, if_false]
    repeat' ((first | rw [guardK_cases] | rw [condK_bool] | rw [guardD_cases]); split <;> simp only [evX, Int.reduceEq, Int.reduceLT, Int.reduceLE, Nat.reduceMul, Nat.reduceMod, evW, evR, Nat.reduceAdd, Nat.reduceLT, Nat.reduceLeDiff, reduceIte, Nat.reduceEqDiff, reduceCtorEq, argEnv, eq_self, if_true, if_false, *])
  · simp at ha
def rdG (p : List ByteArray) (s : Slot) : ByteArray := readP p s.row.toNat s.col.toNat s.bytes.toNat
/-- how a field is read -/
theorem read_slc {f : Form} (g : FormG f) {p : List ByteArray} (hp : PicF f p) {x : Slot} (hx : x ∈ f.slots) : iaddrK 1 (some (eStrs p)) (some (.int .i64 x.row)) = some (.fptr (rS (rowP p x.row.toNat))) ∧ IntKind.i64.wrap (x.col + x.bytes) = x.col + x.bytes ∧ asNat (.int .i64 x.col) = some x.col.toNat ∧ asNat (.int .i64 (x.col + x.bytes)) = some (x.col + x.bytes).toNat ∧ evSlcs (rowP p x.row.toNat) (some x.col.toNat) (some (x.col + x.bytes).toNat) = some (.str (rdG p x)) := by
  obtain ⟨_, _, _, _, _, s1, s2, s3, s4, s5⟩ := g.slotAt hx
  have := g.chi
  obtain ⟨q, hq, hqs, hrow⟩ := hp.dim.at (r := x.row.toNat) (by omega)
  have h1 := aS hq
  rw [Int.toNat_of_nonneg s1] at h1
  rw [hrow]
  refine ⟨h1, wrapA s3 (by omega) (by omega) (by omega), asNat_int s3 _, asNat_int (by omega) _, ?_⟩
  rw [slcs_at q s3 (by omega) (by omega)]
  unfold rdG readP
  rw [hrow, show (x.col + x.bytes).toNat = x.col.toNat + x.bytes.toNat by omega]
theorem rd_size {f : Form} (g : FormG f) {p : List ByteArray} (hp : PicF f p) {x : Slot} (hx : x ∈ f.slots) : (rdG p x).size = x.bytes.toNat := read_size hp.dim ((apart_of g).row x hx) ((apart_of g).col x hx)
set_option maxHeartbeats 4000000 in
theorem l11_0 (f : Form) (g : FormG f) (p w : List ByteArray) (hp : PicF f p) (hw : Dim w f.rows.toNat f.cols.toNat) (K : Heap) (st : St) (hE : keepEnv st.1 [1, 8, 28, 29, 30] = [(1, eStrs p), (8, eStrs w), (28, eSlots f.slots), (29, .int .i64 (f.slots.length : Int)), (30, .int .i64 0)]) (G0 : Heap) (hH : st.2 = K ++ ([] ++ G0)) (z : Option (CX × St)) (hz : itLim (evCode (evC cprog) itLim c11_l0) st = z) :
    ∃ T G, z = some (.exit 0, T, K ++ ([] ++ G)) ∧ keepEnv T [1, 8] = [(1, eStrs p), (8, eStrs (laysF (rdG p) f.slots w))] := by
  have hrl := g.rlo
  have hrh := g.rhi
  have hch := g.chi
  have hap := apart_of g
  have hsl := g.sl
  have L := all_rule f.slots (fun _ => true) [1, 8, 28, 29, 30] (fun i => [(1, eStrs p), (8, eStrs (laysF (rdG p) (f.slots.take i) w)), (28, eSlots f.slots), (29, .int .i64 (f.slots.length : Int)), (30, .int .i64 (i : Int))]) K [] (evCode (evC cprog) itLim c11_l0) (fun c T => c = .exit 0 ∧ keepEnv T [1, 8] = [(1, eStrs p), (8, eStrs (laysF (rdG p) f.slots w))]) (fun c T => False)
    (fun i x hx E G hE => by
      have hm := List.mem_of_getElem? hx
      have hlt : i < f.slots.length := (List.getElem?_eq_some_iff.1 hx).1
      have hi : (i : Int) < (f.slots.length : Int) := by omega
      have ha := aSlot hx
      obtain ⟨r1, r2, r3, r4, r5⟩ := read_slc g hp hm
      obtain ⟨_, _, _, _, _, s1, s2, s3, s4, s5⟩ := g.slotAt hm
      have hd : Dim (laysF (rdG p) (f.slots.take i) w) f.rows.toNat f.cols.toNat := by
        have hA : Apart (f.slots.take i) f.rows.toNat f.cols.toNat := ⟨fun s h => hap.row s (List.mem_of_mem_take h), fun s h => hap.col s (List.mem_of_mem_take h), hap.dis.sublist (List.take_sublist ..)⟩
        exact lays_dim _ hA (fun s h => rd_size g hp (List.mem_of_mem_take h)) w hw
      have h49 := f49 (lo := 0) (K ++ (G ++ [bSlot x])) (eStrs (laysF (rdG p) (f.slots.take i) w)) _ f.rows.toNat f.cols.toNat x.row.toNat x.col.toNat hd (.lst (by rw [hd.len]; omega) _) (by omega) (rdG p x) (by rw [rd_size g hp hm]; omega) (by omega) (by omega)
      rw [Int.toNat_of_nonneg s1, Int.toNat_of_nonneg s3] at h49
      have hstep : laysF (rdG p) (f.slots.take (i + 1)) w = lay (laysF (rdG p) (f.slots.take i) w) x.row.toNat x.col.toNat (rdG p x) := by
        unfold laysF
        rw [List.take_add_one, hx, Option.toList_some, List.foldl_append]
        rfl
      rw [← hstep] at h49
      simp only [bSlot, rSlot] at h49
      clear s1 s2 s3 s4 s5 hd hstep
      generalize hg1 : laysF (rdG p) (f.slots.take (i + 1)) w = p1 at *
      generalize laysF (rdG p) (f.slots.take i) w = p0 at *
      generalize rdG p x = rx at *
      simp only [c11_l0, hE, hi, ha, rSlot, r1, rS, r2, r3, r4, p_slcs, slcsK_some, r5, h49, wrapS hlt (by omega), evX, Int.reduceEq, Int.reduceLT, Int.reduceLE, Nat.reduceMul, Nat.reduceMod, evW, fn_eq, evR, Nat.reduceAdd, Nat.reduceLT, Nat.reduceLeDiff, reduceIte, Nat.reduceEqDiff, reduceCtorEq, argEnv, eq_self, if_true, if_false]
      repeat' ((first | rw [guardK_cases] | rw [condK_bool] | rw [guardD_cases]); split <;> simp only [c11_l0, hE, hi, ha, rSlot, r1, rS, r2, r3, r4, p_slcs, slcsK_some, r5, h49, wrapS hlt (by omega), evX, Int.reduceEq, Int.reduceLT, Int.reduceLE, Nat.reduceMul, Nat.reduceMod, evW, evR, Nat.reduceAdd, Nat.reduceLT, Nat.reduceLeDiff, reduceIte, Nat.reduceEqDiff, reduceCtorEq, argEnv, eq_self, if_true, if_false, *])
      exact Sc.next rfl (by rfl))
    (fun E G hE => by
      rw [List.take_of_length_le (Nat.le_refl _)] at hE
      simp only [c11_l0, hE, Int.lt_irrefl, evX, Int.reduceEq, Int.reduceLT, Int.reduceLE, Nat.reduceMul, Nat.reduceMod, evW, fn_eq, evR, Nat.reduceAdd, Nat.reduceLT, Nat.reduceLeDiff, reduceIte, Nat.reduceEqDiff, reduceCtorEq, argEnv, eq_self, if_true, if_false]
      repeat' ((first | rw [guardK_cases] | rw [condK_bool] | rw [guardD_cases]); split <;> simp only [c11_l0, hE, Int.lt_irrefl, evX, Int.reduceEq, Int.reduceLT, Int.reduceLE, Nat.reduceMul, Nat.reduceMod, evW, evR, Nat.reduceAdd, Nat.reduceLT, Nat.reduceLeDiff, reduceIte, Nat.reduceEqDiff, reduceCtorEq, argEnv, eq_self, if_true, if_false, *])
      exact .exit (K := []) ⟨rfl, by rfl⟩) st G0 hE hH z hz
  rcases L with ⟨ha, c, T, G, rfl, _, rfl, hT⟩ | ⟨ha, _⟩
  · exact ⟨T, G, rfl, hT⟩
  · simp at ha
theorem show_dim {f : Form} (g : FormG f) (l : List ByteArray) : Dim (showP f l) f.rows.toNat f.cols.toNat := lays_dim _ (apart_of g) (fun s _ => filled_size s _) _ (base_dim g)
set_option maxHeartbeats 4000000 in
theorem f11 (f : Form) (g : FormG f) (p : List ByteArray) (hp : PicF f p) (H : Heap) : cal (evC cprog) false 11 [eForm f, eStrs p] H = some (.tup [.bool true, .int .i64 0], H) := by
  rw [cal_of at11]
  have h46 := f46 f g
  have h47 := f47 f g p hp
  have h48 := f48 f g
  have h50 := f50 p (by have := (pic_len g hp).1; omega)
  have hl2 := (sSlots [] f.slots).len
  simp only [List.length_map] at hl2
  have hcl : (eStrs p).cells = [eStrs p] := rfl
  have htl : (eStrs p).isTup = false := rfl
  simp only [eForm] at h46 h47 h48
  obtain ⟨b1, b2, b3⟩ := mx_ge Slot.out f.slots 0
  obtain ⟨n, hn⟩ : ∃ n : Nat, mxI Slot.out f.slots = (n : Int) := ⟨(mxI Slot.out f.slots).toNat, (Int.toNat_of_nonneg b1).symm⟩
  have hn4 : n ≤ 4 := by
    have := b3 (fun s hs => by have := (g.slotAt hs).2.2.2.1; omega) (by omega)
    unfold mxI at hn
    omega
  have hlt : ∀ s ∈ f.slots, s.out < ((List.replicate n (⟨#[]⟩ : ByteArray)).length : Int) := fun s h => by
    rw [List.length_replicate, ← hn]
    have := b2 s h
    unfold mxI
    omega
  have hbad : (List.replicate n (⟨#[]⟩ : ByteArray)).any badT = false := by
    rw [List.any_eq_false]
    intro s hs
    rw [(List.mem_replicate.1 hs).2]
    decide
  have hsame : laysF (rdG p) f.slots (showP f (List.replicate n ⟨#[]⟩)) = p := pic_same (apart_of g) hp (show_dim g _) fun i j hi hj hno => lays_out _ (apart_of g) (fun s _ => filled_size s _) hno _ (base_dim g)
  have hsd := show_dim g (List.replicate n ⟨#[]⟩)
  rw [hn] at h48
  by_cases h0 : n = 0
  · subst h0
    have hm := fun K : Heap => mks_none K
    have h45 := fun K => f45 f g (List.replicate 0 ⟨#[]⟩) .nil0 hlt hbad rfl rfl K (out_slat (.nil0 0 1 9 K) [] rfl (by simp))
    simp only [eForm, Int.natCast_zero] at h45 h48
    generalize showP f (List.replicate 0 ⟨#[]⟩) = w at *
    simp only [c11, eForm, hcl, htl, h46, h47, h48, hm, h45, hl2, evX, Int.reduceEq, Int.reduceLT, Int.reduceLE, Nat.reduceMul, Nat.reduceMod, evW, fn_eq, evR, Nat.reduceAdd, Nat.reduceLT, Nat.reduceLeDiff, reduceIte, Nat.reduceEqDiff, reduceCtorEq, argEnv, eq_self, if_true, if_false]
    repeat' ((first | rw [guardK_cases] | rw [condK_bool] | rw [guardD_cases]); split <;> simp only [c11, eForm, hcl, htl, h46, h47, h48, hm, h45, hl2, evX, Int.reduceEq, Int.reduceLT, Int.reduceLE, Nat.reduceMul, Nat.reduceMod, evW, evR, Nat.reduceAdd, Nat.reduceLT, Nat.reduceLeDiff, reduceIte, Nat.reduceEqDiff, reduceCtorEq, argEnv, eq_self, if_true, if_false, *])
    generalize hz : itLim _ _ = z
    obtain ⟨T, G, rfl, hT⟩ := l11_0 f g p w hp hsd (H ++ [bForm f]) _ (by rfl) [] (by simp [bForm]) z hz
    rw [hsame] at hT
    simp only [hT, h50, evX, Int.reduceEq, Int.reduceLT, Int.reduceLE, Nat.reduceMul, Nat.reduceMod, evW, fn_eq, evR, Nat.reduceAdd, Nat.reduceLT, Nat.reduceLeDiff, reduceIte, Nat.reduceEqDiff, reduceCtorEq, argEnv, eq_self, if_true, if_false]
    repeat' ((first | rw [guardK_cases] | rw [condK_bool] | rw [guardD_cases]); split <;> simp only [hT, h50, evX, Int.reduceEq, Int.reduceLT, Int.reduceLE, Nat.reduceMul, Nat.reduceMod, evW, evR, Nat.reduceAdd, Nat.reduceLT, Nat.reduceLeDiff, reduceIte, Nat.reduceEqDiff, reduceCtorEq, argEnv, eq_self, if_true, if_false, *])
  · have hm := fun K : Heap => mks_strs K n (by omega) (by omega)
    have h45 := fun (K : Heap) (b : Nat) (hK : K[b]? = some ⟨0, true, 9, 1, (List.replicate n (⟨#[]⟩ : ByteArray)).map rS⟩) => f45 f g (List.replicate n ⟨#[]⟩) (.ref b 0 1 0 n) hlt hbad rfl rfl K (by
      have := SlAt.ref (H := K) (sz := 1) (b := b) (v := 0) (off := 0) (rows := (List.replicate n (⟨#[]⟩ : ByteArray)).map rS) (k := ⟨0, true, 9, 1, (List.replicate n (⟨#[]⟩ : ByteArray)).map rS⟩) (by simp [curBlk, hK]) fun i row hi => ⟨by obtain ⟨_, _, rfl⟩ := List.mem_map.1 (List.mem_of_getElem? hi); rfl, by rw [Nat.zero_add]; exact hi⟩
      simpa using this)
    have h45' := h45 (H ++ [bForm f, ⟨0, true, 9, 1, (List.replicate n (⟨#[]⟩ : ByteArray)).map rS⟩]) (H.length + 1) (by simp)
    simp only [eForm, bForm] at h45'
    clear h45
    generalize showP f (List.replicate n ⟨#[]⟩) = w at *
    generalize (List.replicate n (⟨#[]⟩ : ByteArray)).map rS = els at *
    simp only [c11, eForm, hcl, htl, h46, h47, h48, hm, h45', hl2, evX, Int.reduceEq, Int.reduceLT, Int.reduceLE, Nat.reduceMul, Nat.reduceMod, evW, fn_eq, evR, Nat.reduceAdd, Nat.reduceLT, Nat.reduceLeDiff, reduceIte, Nat.reduceEqDiff, reduceCtorEq, argEnv, eq_self, if_true, if_false]
    repeat' ((first | rw [guardK_cases] | rw [condK_bool] | rw [guardD_cases]); split <;> simp only [c11, eForm, hcl, htl, h46, h47, h48, hm, h45', hl2, evX, Int.reduceEq, Int.reduceLT, Int.reduceLE, Nat.reduceMul, Nat.reduceMod, evW, evR, Nat.reduceAdd, Nat.reduceLT, Nat.reduceLeDiff, reduceIte, Nat.reduceEqDiff, reduceCtorEq, argEnv, eq_self, if_true, if_false, *])
    generalize hz : itLim _ _ = z
    obtain ⟨T, G, rfl, hT⟩ := l11_0 f g p w hp hsd (H ++ [bForm f, ⟨0, true, 9, 1, els⟩]) _ (by rfl) [] (by simp [bForm]) z hz
    rw [hsame] at hT
    simp only [hT, h50, evX, Int.reduceEq, Int.reduceLT, Int.reduceLE, Nat.reduceMul, Nat.reduceMod, evW, fn_eq, evR, Nat.reduceAdd, Nat.reduceLT, Nat.reduceLeDiff, reduceIte, Nat.reduceEqDiff, reduceCtorEq, argEnv, eq_self, if_true, if_false]
    repeat' ((first | rw [guardK_cases] | rw [condK_bool] | rw [guardD_cases]); split <;> simp only [hT, h50, evX, Int.reduceEq, Int.reduceLT, Int.reduceLE, Nat.reduceMul, Nat.reduceMod, evW, evR, Nat.reduceAdd, Nat.reduceLT, Nat.reduceLeDiff, reduceIte, Nat.reduceEqDiff, reduceCtorEq, argEnv, eq_self, if_true, if_false, *])
end Go.Proofs.Ytondenmkhfignaa.Code

/- screen: fields by name; a text typed into a picture; texts without what fills. -/
set_option linter.unusedSimpArgs false
set_option linter.unusedVariables false
namespace Go.Proofs.Ytondenmkhfignaa.Code
open Go.Proofs.Ytondenmkhfignaa.Ev

def ixF (f : Form) (name : ByteArray) : Int := idxOf (fun s : Slot => decide (s.name = name)) f.slots
theorem f165 (s : Slot) (name : ByteArray) (b : Nat) (H : Heap) (hb : H[b]? = some ⟨0, true, 9, 1, [[.str name]]⟩) : cal (evC cprog) false 165 [.agg (rSlot s), .ptr b 0 1 0 0] H = some (.bool (decide (s.name = name)), H) := by
  rw [cal_of at165]
  have hb' := Sits.mk hb
  simp only [Sits] at hb'
  simp only [c165, rSlot, hb', evX, Int.reduceEq, Int.reduceLT, Int.reduceLE, Nat.reduceMul, Nat.reduceMod, evW, fn_eq, evR, Nat.reduceAdd, Nat.reduceLT, Nat.reduceLeDiff, reduceIte, Nat.reduceEqDiff, reduceCtorEq, argEnv, eq_self, if_true, if_false]
  repeat' ((first | rw [guardK_cases] | rw [condK_bool] | rw [guardD_cases]); split <;> simp only [c165, rSlot, hb', evX, Int.reduceEq, Int.reduceLT, Int.reduceLE, Nat.reduceMul, Nat.reduceMod, evW, evR, Nat.reduceAdd, Nat.reduceLT, Nat.reduceLeDiff, reduceIte, Nat.reduceEqDiff, reduceCtorEq, argEnv, eq_self, if_true, if_false, *])
theorem f99 (f : Form) (g : FormG f) (name : ByteArray) (H : Heap) : cal (evC cprog) false 99 [eForm f, .str name] H = some (.int .i64 (ixF f name), H) := by
  rw [cal_of at99]
  have h100 := indexFunc_ok (sz := 7) (ag := true) at100 _ _ lSlot 165 [.ptr (H.length + 1) 0 1 0 0] _ (H ++ [bForm f, ⟨0, true, 9, 1, [[.str name]]⟩]) _ f.slots (sSlots _ _) (by have := g.sl; omega) fun s _ => f165 s name (H.length + 1) (H ++ [bForm f, ⟨0, true, 9, 1, [[.str name]]⟩]) (by simp)
  simp only [bForm] at h100
  simp only [c99, eForm, h100, scal_ptr, evX, Int.reduceEq, Int.reduceLT, Int.reduceLE, Nat.reduceMul, Nat.reduceMod, evW, fn_eq, evR, Nat.reduceAdd, Nat.reduceLT, Nat.reduceLeDiff, reduceIte, Nat.reduceEqDiff, reduceCtorEq, argEnv, eq_self, if_true, if_false]
  repeat' ((first | rw [guardK_cases] | rw [condK_bool] | rw [guardD_cases]); split <;> simp only [c99, eForm, h100, scal_ptr, evX, Int.reduceEq, Int.reduceLT, Int.reduceLE, Nat.reduceMul, Nat.reduceMod, evW, evR, Nat.reduceAdd, Nat.reduceLT, Nat.reduceLeDiff, reduceIte, Nat.reduceEqDiff, reduceCtorEq, argEnv, eq_self, if_true, if_false, *])
  rfl
theorem ix_cases (f : Form) (name : ByteArray) : ixF f name = -1 ∨ ∃ (i : Nat) (x : Slot), ixF f name = (i : Int) ∧ f.slots[i]? = some x := by
  unfold ixF idxOf
  cases h : f.slots.findIdx? fun s => decide (s.name = name) with
  | none => exact .inl rfl
  | some i =>
    obtain ⟨hi, _⟩ := List.findIdx?_eq_some_iff_getElem.1 h
    exact .inr ⟨i, _, rfl, List.getElem?_eq_getElem hi⟩
theorem f52 (f : Form) (g : FormG f) (name : ByteArray) (H : Heap) : cal (evC cprog) false 52 [eForm f, .str name] H = some (.tup (if ixF f name < 0 then [.int .i64 0, .int .i64 5] else [.int .i64 (ixF f name), .int .i64 0]), H) := by
  rw [cal_of at52]
  have h46 := f46 f g
  have h99 := f99 f g name
  simp only [eForm] at h46 h99
  by_cases c : ixF f name < 0
  · rw [if_pos c]
    simp only [c52, eForm, h46, h99, c, evX, Int.reduceEq, Int.reduceLT, Int.reduceLE, Nat.reduceMul, Nat.reduceMod, evW, fn_eq, evR, Nat.reduceAdd, Nat.reduceLT, Nat.reduceLeDiff, reduceIte, Nat.reduceEqDiff, reduceCtorEq, argEnv, eq_self, if_true, if_false]
    repeat' ((first | rw [guardK_cases] | rw [condK_bool] | rw [guardD_cases]); split <;> simp only [c52, eForm, h46, h99, c, evX, Int.reduceEq, Int.reduceLT, Int.reduceLE, Nat.reduceMul, Nat.reduceMod, evW, evR, Nat.reduceAdd, Nat.reduceLT, Nat.reduceLeDiff, reduceIte, Nat.reduceEqDiff, reduceCtorEq, argEnv, eq_self, if_true, if_false, *])
  · rw [if_neg c]
    simp only [c52, eForm, h46, h99, c, evX, Int.reduceEq, Int.reduceLT, Int.reduceLE, Nat.reduceMul, Nat.reduceMod, evW, fn_eq, evR, Nat.reduceAdd, Nat.reduceLT, Nat.reduceLeDiff, reduceIte, Nat.reduceEqDiff, reduceCtorEq, argEnv, eq_self, if_true, if_false]
    repeat' ((first | rw [guardK_cases] | rw [condK_bool] | rw [guardD_cases]); split <;> simp only [c52, eForm, h46, h99, c, evX, Int.reduceEq, Int.reduceLT, Int.reduceLE, Nat.reduceMul, Nat.reduceMod, evW, evR, Nat.reduceAdd, Nat.reduceLT, Nat.reduceLeDiff, reduceIte, Nat.reduceEqDiff, reduceCtorEq, argEnv, eq_self, if_true, if_false, *])
/-- what Type answers -/
noncomputable def typE (f : Form) (name t : ByteArray) : Int := if isText t = true then (match f.slots[(ixF f name).toNat]? with
  | some x => if ixF f name < 0 then 5 else if (t.size : Int) ≤ x.bytes then 0 else 2
  | none => 5) else 2
def typP (f : Form) (p : List ByteArray) (name t : ByteArray) : List ByteArray := match f.slots[(ixF f name).toNat]? with
  | some x => lay p x.row.toNat x.col.toNat (filledB x t)
  | none => p
set_option maxHeartbeats 4000000 in
theorem f53 (f : Form) (g : FormG f) (p : List ByteArray) (hp : PicF f p) (name t : ByteArray) (ht : t.size ≤ 1000000) (H : Heap) : cal (evC cprog) true 53 [eForm f, eStrs p, .str name, .str t] H = some (.tup [if typE f name t = 0 then eStrs (typP f p name t) else eStrs [], .int .i64 (typE f name t)], H) := by
  rw [cal_of at53]
  have h51 := f51 f g p hp
  have h89 := f89 t (by omega)
  have h99 := f99 f g name
  have hcl : (eStrs p).cells = [eStrs p] := rfl
  have htl : (eStrs p).isTup = false := rfl
  simp only [eForm] at h51 h99
  have fin : ∀ e : Int, e ≠ 0 → (AV.tup [if e = 0 then eStrs (typP f p name t) else eStrs [], .int .i64 e]) = .tup [eStrs [], .int .i64 e] := fun e he => by rw [if_neg he]
  cases hx : isText t with
  | false =>
    have e : typE f name t = 2 := by unfold typE; rw [hx]; rfl
    rw [e, fin 2 (by omega)]
    simp only [hx] at h89
    simp only [c53, eForm, hcl, htl, h51, h89, evX, Int.reduceEq, Int.reduceLT, Int.reduceLE, Nat.reduceMul, Nat.reduceMod, evW, fn_eq, evR, Nat.reduceAdd, Nat.reduceLT, Nat.reduceLeDiff, reduceIte, Nat.reduceEqDiff, reduceCtorEq, argEnv, eq_self, if_true, if_false]
    repeat' ((first | rw [guardK_cases] | rw [condK_bool] | rw [guardD_cases]); split <;> simp only [c53, eForm, hcl, htl, h51, h89, evX, Int.reduceEq, Int.reduceLT, Int.reduceLE, Nat.reduceMul, Nat.reduceMod, evW, evR, Nat.reduceAdd, Nat.reduceLT, Nat.reduceLeDiff, reduceIte, Nat.reduceEqDiff, reduceCtorEq, argEnv, eq_self, if_true, if_false, *])
    exact frz_two (fz_nils _) rfl (by simp) (by simp) _ _
  | true =>
    simp only [hx] at h89
    rcases ix_cases f name with hi | ⟨i, x, hi, hxi⟩
    · have e : typE f name t = 5 := by unfold typE; rw [hx, if_pos rfl, hi]; split <;> rfl
      rw [e, fin 5 (by omega)]
      simp only [hi] at h99
      simp only [c53, eForm, hcl, htl, h51, h89, h99, evX, Int.reduceEq, Int.reduceLT, Int.reduceLE, Nat.reduceMul, Nat.reduceMod, evW, fn_eq, evR, Nat.reduceAdd, Nat.reduceLT, Nat.reduceLeDiff, reduceIte, Nat.reduceEqDiff, reduceCtorEq, argEnv, eq_self, if_true, if_false]
      repeat' ((first | rw [guardK_cases] | rw [condK_bool] | rw [guardD_cases]); split <;> simp only [c53, eForm, hcl, htl, h51, h89, h99, evX, Int.reduceEq, Int.reduceLT, Int.reduceLE, Nat.reduceMul, Nat.reduceMod, evW, evR, Nat.reduceAdd, Nat.reduceLT, Nat.reduceLeDiff, reduceIte, Nat.reduceEqDiff, reduceCtorEq, argEnv, eq_self, if_true, if_false, *])
      exact frz_two (fz_nils _) rfl (by simp) (by simp) _ _
    · have ha := aSlot hxi
      have hi0 : ¬ (i : Int) < 0 := by omega
      simp only [hi] at h99
      by_cases c : (t.size : Int) ≤ x.bytes
      · have e : typE f name t = 0 := by unfold typE; rw [hx, if_pos rfl, hi, Int.toNat_natCast, hxi]; simp only; rw [if_neg hi0, if_pos c]
        have e2 : typP f p name t = lay p x.row.toNat x.col.toNat (filledB x t) := by unfold typP; rw [hi, Int.toNat_natCast, hxi]
        rw [e, if_pos rfl, e2]
        have hm := List.mem_of_getElem? hxi
        obtain ⟨_, _, _, _, _, s1, s2, s3, s4, s5⟩ := g.slotAt hm
        have hrh := g.rhi
        have hch := g.chi
        have h92 := fun K => f92 x s4 (by omega) t ht K
        have h49 := f49 (lo := 0) (H ++ [bForm f, bSlot x]) (eStrs p) _ f.rows.toNat f.cols.toNat x.row.toNat x.col.toNat hp.dim (.lst (pic_len g hp).2.1 _) (by omega) (filledB x t) (by rw [filled_size]; omega) (by omega) (by omega)
        rw [Int.toNat_of_nonneg s1, Int.toNat_of_nonneg s3] at h49
        have c' : ¬ x.bytes < (t.size : Int) := by omega
        simp only [bForm, bSlot, rSlot] at h49 h92
        clear s1 s2 s3 s4 s5 c e e2
        generalize lay p x.row.toNat x.col.toNat (filledB x t) = q at *
        generalize filledB x t = ft at *
        have hq : (eStrs q).isTup = false := rfl
        simp only [c53, eForm, hcl, htl, h51, h89, h99, hi0, ha, rSlot, c', h92, h49, hq, evX, Int.reduceEq, Int.reduceLT, Int.reduceLE, Nat.reduceMul, Nat.reduceMod, evW, fn_eq, evR, Nat.reduceAdd, Nat.reduceLT, Nat.reduceLeDiff, reduceIte, Nat.reduceEqDiff, reduceCtorEq, argEnv, eq_self, if_true, if_false]
        repeat' ((first | rw [guardK_cases] | rw [condK_bool] | rw [guardD_cases]); split <;> simp only [c53, eForm, hcl, htl, h51, h89, h99, hi0, ha, rSlot, c', h92, h49, hq, evX, Int.reduceEq, Int.reduceLT, Int.reduceLE, Nat.reduceMul, Nat.reduceMod, evW, evR, Nat.reduceAdd, Nat.reduceLT, Nat.reduceLeDiff, reduceIte, Nat.reduceEqDiff, reduceCtorEq, argEnv, eq_self, if_true, if_false, *])
        exact frz_two (ids := []) rfl rfl (by simp) (by simp) _ _
      · have e : typE f name t = 2 := by unfold typE; rw [hx, if_pos rfl, hi, Int.toNat_natCast, hxi]; simp only; rw [if_neg hi0, if_neg c]
        rw [e, fin 2 (by omega)]
        have c' : x.bytes < (t.size : Int) := by omega
        simp only [c53, eForm, hcl, htl, h51, h89, h99, hi0, ha, rSlot, c', evX, Int.reduceEq, Int.reduceLT, Int.reduceLE, Nat.reduceMul, Nat.reduceMod, evW, fn_eq, evR, Nat.reduceAdd, Nat.reduceLT, Nat.reduceLeDiff, reduceIte, Nat.reduceEqDiff, reduceCtorEq, argEnv, eq_self, if_true, if_false]
        repeat' ((first | rw [guardK_cases] | rw [condK_bool] | rw [guardD_cases]); split <;> simp only [c53, eForm, hcl, htl, h51, h89, h99, hi0, ha, rSlot, c', evX, Int.reduceEq, Int.reduceLT, Int.reduceLE, Nat.reduceMul, Nat.reduceMod, evW, evR, Nat.reduceAdd, Nat.reduceLT, Nat.reduceLeDiff, reduceIte, Nat.reduceEqDiff, reduceCtorEq, argEnv, eq_self, if_true, if_false, *])
        exact frz_two (fz_nils _) rfl (by simp) (by simp) _ _
/-- how much of a text is left without what fills -/
def trimN (t : ByteArray) (c : UInt8) : Nat → Nat
  | 0 => 0
  | n + 1 => if t.data.toList[n]? = some c then trimN t c n else n + 1
def trimB (t : ByteArray) (c : UInt8) : ByteArray := t.extract 0 (trimN t c t.size)
theorem cut_size {t : ByteArray} {k : Nat} (h : k ≤ t.size) : (t.extract 0 k).size = k := by
  rw [← size_eq, ext_list, List.drop_zero, List.length_take, size_eq]; omega
theorem cut_all (t : ByteArray) : t.extract 0 t.size = t := bytes_ext (by rw [ext_list, List.drop_zero, List.take_of_length_le (Nat.le_of_eq (size_eq t))])
theorem cut_cut {t : ByteArray} {j k : Nat} (h : j ≤ k) : (t.extract 0 k).extract 0 j = t.extract 0 j := bytes_ext (by simp only [ext_list, List.drop_zero]; rw [List.take_take, Nat.min_eq_left h])
theorem u8_eq {a b : UInt8} : ((a.toNat : Int) = (b.toNat : Int)) = (a = b) := by
  rw [eq_iff_iff]
  constructor
  · intro h
    exact UInt8.toNat_inj.1 (by omega)
  · rintro rfl; rfl
/-- a step of the loop that cuts -/
theorem trim_step {t : ByteArray} {k : Nat} (h : k + 1 ≤ t.size) : ∃ b, t.data.toList[k]? = some b ∧ idxK (some (.str (t.extract 0 (k + 1)))) (some (.int .i64 (k : Int))) = some (.int .u8 (b.toNat : Int)) ∧ evSlcs (t.extract 0 (k + 1)) none (some k) = some (.str (t.extract 0 k)) := by
  obtain ⟨b, hb⟩ : ∃ b, t.data.toList[k]? = some b := ⟨_, List.getElem?_eq_getElem (by rw [size_eq]; omega)⟩
  refine ⟨b, hb, idx_at _ (by rw [ext_list, List.drop_zero, List.getElem?_take, if_pos (by omega)]; exact hb), ?_⟩
  unfold evSlcs
  simp only [Option.getD_some, Option.getD_none]
  rw [if_pos ⟨by omega, by rw [cut_size h]; omega⟩, cut_cut (by omega)]
end Go.Proofs.Ytondenmkhfignaa.Code

/- screen: the message of a picture. -/
set_option linter.unusedSimpArgs false
set_option linter.unusedVariables false
namespace Go.Proofs.Ytondenmkhfignaa.Code
open Go.Proofs.Ytondenmkhfignaa.Ev

def outG (p : List ByteArray) (o : List ByteArray) (s : Slot) : List ByteArray := if s.inn < 0 then o else o.set s.inn.toNat (trimB (rdG p s) s.fill)
def outF (p : List ByteArray) (n : Nat) (L : List Slot) : List ByteArray := L.foldl (outG p) (List.replicate n ⟨#[]⟩)
theorem out_len' (p : List ByteArray) : ∀ (L : List Slot) (o : List ByteArray), (L.foldl (outG p) o).length = o.length
  | [], o => rfl
  | s :: L, o => by
    rw [List.foldl_cons, out_len' p L]
    unfold outG
    split
    · rfl
    · rw [List.length_set]
theorem outF_len (p : List ByteArray) (n : Nat) (L : List Slot) : (outF p n L).length = n := by
  unfold outF
  rw [out_len', List.length_replicate]
def hbO (n : Nat) (o : List ByteArray) : Heap := if n = 0 then [] else [⟨0, true, 9, 1, o.map rS⟩]
def raO (n b : Nat) : AV := if n = 0 then .nil0 else .ref b 0 1 0 n
theorem l12_0 (x : Slot) (t : ByteArray) (ht : t.size ≤ 1000000) (a1 a9 a27 a28 a29 : AV) (b : Nat) (K : Heap) (hb : Sits K b (bSlot x)) (st : St) (hE : keepEnv st.1 [1, 9, 11, 12, 27, 28, 29] = [(1, a1), (9, a9), (11, .ptr b 0 7 0 0), (12, .str t), (27, a27), (28, a28), (29, a29)]) (hH : st.2 = K) (z : Option (CX × St)) (hz : itLim (evCode (evC cprog) itLim c12_l0) st = z) :
    ∃ T, z = some (.exit 2, T, K) ∧ keepEnv T [1, 9, 11, 12, 27, 28, 29] = [(1, a1), (9, a9), (11, .ptr b 0 7 0 0), (12, .str (trimB t x.fill)), (27, a27), (28, a28), (29, a29)] := by
  have hb' := hb.at
  simp only [bSlot, rSlot] at hb'
  have L := loop_rule (σ := Nat) (m := [1, 9, 11, 12, 27, 28, 29]) (env := fun k => [(1, a1), (9, a9), (11, .ptr b 0 7 0 0), (12, .str (t.extract 0 k)), (27, a27), (28, a28), (29, a29)]) (hp := fun _ => K)
    (P := fun _ r => ∃ T, r = (.exit 2, T, K) ∧ keepEnv T [1, 9, 11, 12, 27, 28, 29] = [(1, a1), (9, a9), (11, .ptr b 0 7 0 0), (12, .str (trimB t x.fill)), (27, a27), (28, a28), (29, a29)])
    (mu := fun k => k) (I := fun k => k ≤ t.size ∧ trimN t x.fill k = trimN t x.fill t.size) (evCode (evC cprog) itLim c12_l0) ?_ t.size st ⟨Nat.le_refl _, rfl⟩ (by rw [cut_all]; exact hE) hH z hz
  · obtain ⟨_, rfl, T, rfl, hT⟩ := L
    exact ⟨T, rfl, hT⟩
  · rintro k ⟨hk, hI⟩ E hE
    have hsz := cut_size hk
    cases k with
    | zero =>
      have h0 : ¬ (0 : Int) < ((t.extract 0 0).size : Int) := by omega
      have he : t.extract 0 0 = trimB t x.fill := by unfold trimB; rw [← hI]; rfl
      simp only [c12_l0, hE, h0, evX, Int.reduceEq, Int.reduceLT, Int.reduceLE, Nat.reduceMul, Nat.reduceMod, evW, fn_eq, evR, Nat.reduceAdd, Nat.reduceLT, Nat.reduceLeDiff, reduceIte, Nat.reduceEqDiff, reduceCtorEq, argEnv, eq_self, if_true, if_false]
      repeat' ((first | rw [guardK_cases] | rw [condK_bool] | rw [guardD_cases]); split <;> simp only [c12_l0, hE, h0, evX, Int.reduceEq, Int.reduceLT, Int.reduceLE, Nat.reduceMul, Nat.reduceMod, evW, evR, Nat.reduceAdd, Nat.reduceLT, Nat.reduceLeDiff, reduceIte, Nat.reduceEqDiff, reduceCtorEq, argEnv, eq_self, if_true, if_false, *])
      exact q_exit ⟨_, rfl, by rw [← he]; rfl⟩
    | succ k =>
      have h0 : (0 : Int) < ((t.extract 0 (k + 1)).size : Int) := by omega
      obtain ⟨c, c1, c2, c3⟩ := trim_step hk
      have hw : IntKind.i64.wrap (((t.extract 0 (k + 1)).size : Int) - 1) = (k : Int) := by rw [hsz, wrap_i64 (by omega) (by omega)]; omega
      by_cases hc : c = x.fill
      · have hc' : ((c.toNat : Int) = (x.fill.toNat : Int)) = True := by rw [u8_eq]; exact eq_true hc
        have hN : trimN t x.fill (k + 1) = trimN t x.fill k := by simp only [trimN, c1]; rw [if_pos (by rw [hc])]
        clear hc hsz
        generalize t.extract 0 (k + 1) = u at *
        simp only [c12_l0, hE, h0, hw, c2, hb', hc', p_slcs, slcsK_some, asNat_cast, c3, evX, Int.reduceEq, Int.reduceLT, Int.reduceLE, Nat.reduceMul, Nat.reduceMod, evW, fn_eq, evR, Nat.reduceAdd, Nat.reduceLT, Nat.reduceLeDiff, reduceIte, Nat.reduceEqDiff, reduceCtorEq, argEnv, eq_self, if_true, if_false]
        repeat' ((first | rw [guardK_cases] | rw [condK_bool] | rw [guardD_cases]); split <;> simp only [c12_l0, hE, h0, hw, c2, hb', hc', p_slcs, slcsK_some, asNat_cast, c3, evX, Int.reduceEq, Int.reduceLT, Int.reduceLE, Nat.reduceMul, Nat.reduceMod, evW, evR, Nat.reduceAdd, Nat.reduceLT, Nat.reduceLeDiff, reduceIte, Nat.reduceEqDiff, reduceCtorEq, argEnv, eq_self, if_true, if_false, *])
        exact q_next k (by rfl) rfl ⟨by omega, by rw [← hN]; exact hI⟩ (by omega) fun r h => h
      · have hc' : ((c.toNat : Int) = (x.fill.toNat : Int)) = False := by rw [u8_eq]; exact eq_false hc
        have he : t.extract 0 (k + 1) = trimB t x.fill := by
          unfold trimB
          rw [← hI]
          simp only [trimN, c1]
          rw [if_neg (by simpa using hc)]
        clear hc hsz
        generalize t.extract 0 (k + 1) = u at *
        simp only [c12_l0, hE, h0, hw, c2, hb', hc', evX, Int.reduceEq, Int.reduceLT, Int.reduceLE, Nat.reduceMul, Nat.reduceMod, evW, fn_eq, evR, Nat.reduceAdd, Nat.reduceLT, Nat.reduceLeDiff, reduceIte, Nat.reduceEqDiff, reduceCtorEq, argEnv, eq_self, if_true, if_false]
        repeat' ((first | rw [guardK_cases] | rw [condK_bool] | rw [guardD_cases]); split <;> simp only [c12_l0, hE, h0, hw, c2, hb', hc', evX, Int.reduceEq, Int.reduceLT, Int.reduceLE, Nat.reduceMul, Nat.reduceMod, evW, evR, Nat.reduceAdd, Nat.reduceLT, Nat.reduceLeDiff, reduceIte, Nat.reduceEqDiff, reduceCtorEq, argEnv, eq_self, if_true, if_false, *])
        exact q_exit ⟨_, rfl, by rw [← he]; rfl⟩
set_option maxHeartbeats 8000000 in
theorem l12_1 (f : Form) (g : FormG f) (p : List ByteArray) (hp : PicF f p) (n : Nat) (hn : ∀ s ∈ f.slots, s.inn < (n : Int)) (hn4 : n ≤ 4) (K : Heap) (st : St) (hE : keepEnv st.1 [1, 9, 27, 28, 29] = [(1, eStrs p), (9, raO n K.length), (27, eSlots f.slots), (28, .int .i64 (f.slots.length : Int)), (29, .int .i64 0)]) (hH : st.2 = K ++ (hbO n (List.replicate n ⟨#[]⟩) ++ [])) (z : Option (CX × St)) (hz : itLim (evCode (evC cprog) itLim c12_l1) st = z) :
    ∃ T G, z = some (.exit 0, T, K ++ (hbO n (outF p n f.slots) ++ G)) ∧ keepEnv T [9] = [(9, raO n K.length)] := by
  have hsl := g.sl
  have L := loop_rule (σ := Nat × Heap) (m := [1, 9, 27, 28, 29]) (env := fun s => [(1, eStrs p), (9, raO n K.length), (27, eSlots f.slots), (28, .int .i64 (f.slots.length : Int)), (29, .int .i64 (s.1 : Int))]) (hp := fun s => K ++ (hbO n (outF p n (f.slots.take s.1)) ++ s.2))
    (P := fun _ r => ∃ T G, r = (.exit 0, T, K ++ (hbO n (outF p n f.slots) ++ G)) ∧ keepEnv T [9] = [(9, raO n K.length)])
    (mu := fun s => f.slots.length - s.1) (I := fun s => s.1 ≤ f.slots.length) (evCode (evC cprog) itLim c12_l1) ?_ (0, []) st (Nat.zero_le _) hE hH z hz
  · obtain ⟨_, rfl, T, G, rfl, hT⟩ := L
    exact ⟨T, G, rfl, hT⟩
  · rintro ⟨i, G⟩ hi' E hE
    simp only at hi' hE ⊢
    by_cases hlt : i < f.slots.length
    · obtain ⟨x, hx⟩ : ∃ x, f.slots[i]? = some x := ⟨_, List.getElem?_eq_getElem hlt⟩
      have hm := List.mem_of_getElem? hx
      have hi : (i : Int) < (f.slots.length : Int) := by omega
      have ha := aSlot hx
      obtain ⟨r1, r2, r3, r4, r5⟩ := read_slc g hp hm
      obtain ⟨p1, p2, _, _, _, _, _, _, s4, s5⟩ := g.slotAt hm
      have hch := g.chi
      have hrs := rd_size g hp hm
      have hw := wrapS hlt (by omega)
      have hstep : outF p n (f.slots.take (i + 1)) = outG p (outF p n (f.slots.take i)) x := by
        unfold outF
        rw [List.take_add_one, hx, Option.toList_some, List.foldl_append]
        rfl
      have hol := outF_len p n (f.slots.take i)
      by_cases hin : x.inn < 0
      · have hst : outF p n (f.slots.take (i + 1)) = outF p n (f.slots.take i) := by rw [hstep]; unfold outG; rw [if_pos hin]
        generalize hB : hbO n (outF p n (f.slots.take i)) = B at *
        clear hol
        generalize raO n K.length = ra at *
        simp only [c12_l1, hE, hi, ha, rSlot, hin, hw, evX, Int.reduceEq, Int.reduceLT, Int.reduceLE, Nat.reduceMul, Nat.reduceMod, evW, fn_eq, evR, Nat.reduceAdd, Nat.reduceLT, Nat.reduceLeDiff, reduceIte, Nat.reduceEqDiff, reduceCtorEq, argEnv, eq_self, if_true, if_false]
        repeat' ((first | rw [guardK_cases] | rw [condK_bool] | rw [guardD_cases]); split <;> simp only [c12_l1, hE, hi, ha, rSlot, hin, hw, evX, Int.reduceEq, Int.reduceLT, Int.reduceLE, Nat.reduceMul, Nat.reduceMod, evW, evR, Nat.reduceAdd, Nat.reduceLT, Nat.reduceLeDiff, reduceIte, Nat.reduceEqDiff, reduceCtorEq, argEnv, eq_self, if_true, if_false, *])
        exact q_next (i + 1, G ++ [bSlot x]) (by rfl) (by simp only; rw [hst, hB]; rfl) hlt (by simp only; omega) fun r h => h
      · have hn0 : n ≠ 0 := by have := hn x hm; omega
        have hst : outF p n (f.slots.take (i + 1)) = (outF p n (f.slots.take i)).set x.inn.toNat (trimB (rdG p x) x.fill) := by rw [hstep]; unfold outG; rw [if_neg hin]
        have hra : raO n K.length = .ref K.length 0 1 0 n := if_neg hn0
        have hbo : ∀ o, hbO n o = [⟨0, true, 9, 1, o.map rS⟩] := fun o => if_neg hn0
        have hinn : asNat (.int .i64 x.inn) = some x.inn.toNat := asNat_int (by omega) _
        have hil : x.inn.toNat < n := by have := hn x hm; omega
        simp only [hra, hbo] at hE ⊢
        have hset : ((outF p n (f.slots.take i)).map rS).set x.inn.toNat [.str (trimB (rdG p x) x.fill)] = (outF p n (f.slots.take (i + 1))).map rS := by rw [hst, List.map_set]; rfl
        obtain ⟨y, hy⟩ : ∃ y, ((outF p n (f.slots.take i)).map rS)[x.inn.toNat]? = some [.str y] := ⟨_, by rw [List.getElem?_map, List.getElem?_eq_getElem (by rw [hol]; exact hil)]; rfl⟩
        have h0 := fun st hE hH z hz => l12_0 x (rdG p x) (by omega) (eStrs p) (.ref K.length 0 1 0 n) (eSlots f.slots) (.int .i64 (f.slots.length : Int)) (.int .i64 (i : Int)) (K.length + (G.length + 1)) (K ++ (⟨0, true, 9, 1, (outF p n (f.slots.take i)).map rS⟩ :: (G ++ [bSlot x]))) (.mk (by simp)) st hE hH z hz
        clear hst hstep hol hn0
        generalize (outF p n (f.slots.take i)).map rS = els at *
        generalize hel : (outF p n (f.slots.take (i + 1))).map rS = els' at *
        generalize rdG p x = rx at *
        simp only [c12_l1, hE, hi, ha, rSlot, hin, r1, rS, r2, r3, r4, p_slcs, slcsK_some, r5, evX, Int.reduceEq, Int.reduceLT, Int.reduceLE, Nat.reduceMul, Nat.reduceMod, evW, fn_eq, evR, Nat.reduceAdd, Nat.reduceLT, Nat.reduceLeDiff, reduceIte, Nat.reduceEqDiff, reduceCtorEq, argEnv, eq_self, if_true, if_false]
        repeat' ((first | rw [guardK_cases] | rw [condK_bool] | rw [guardD_cases]); split <;> simp only [c12_l1, hE, hi, ha, rSlot, hin, r1, rS, r2, r3, r4, p_slcs, slcsK_some, r5, evX, Int.reduceEq, Int.reduceLT, Int.reduceLE, Nat.reduceMul, Nat.reduceMod, evW, evR, Nat.reduceAdd, Nat.reduceLT, Nat.reduceLeDiff, reduceIte, Nat.reduceEqDiff, reduceCtorEq, argEnv, eq_self, if_true, if_false, *])
        generalize hz : itLim _ _ = z
        obtain ⟨T, rfl, hT⟩ := h0 _ (by rfl) (by simp [bSlot, rSlot]) z hz
        simp only [hT, bSlot, rSlot, hinn, hil, hy, hset, hw, evX, Int.reduceEq, Int.reduceLT, Int.reduceLE, Nat.reduceMul, Nat.reduceMod, evW, fn_eq, evR, Nat.reduceAdd, Nat.reduceLT, Nat.reduceLeDiff, reduceIte, Nat.reduceEqDiff, reduceCtorEq, argEnv, eq_self, if_true, if_false]
        repeat' ((first | rw [guardK_cases] | rw [condK_bool] | rw [guardD_cases]); split <;> simp only [hT, bSlot, rSlot, hinn, hil, hy, hset, hw, evX, Int.reduceEq, Int.reduceLT, Int.reduceLE, Nat.reduceMul, Nat.reduceMod, evW, evR, Nat.reduceAdd, Nat.reduceLT, Nat.reduceLeDiff, reduceIte, Nat.reduceEqDiff, reduceCtorEq, argEnv, eq_self, if_true, if_false, *])
        exact q_next (i + 1, G ++ [bSlot x]) (by rfl) (by simp only; rw [hel]; rfl) hlt (by simp only; omega) fun r h => h
    · have hi : ¬ (i : Int) < (f.slots.length : Int) := by omega
      rw [List.take_of_length_le (by omega)]
      generalize raO n K.length = ra at *
      simp only [c12_l1, hE, hi, evX, Int.reduceEq, Int.reduceLT, Int.reduceLE, Nat.reduceMul, Nat.reduceMod, evW, fn_eq, evR, Nat.reduceAdd, Nat.reduceLT, Nat.reduceLeDiff, reduceIte, Nat.reduceEqDiff, reduceCtorEq, argEnv, eq_self, if_true, if_false]
      repeat' ((first | rw [guardK_cases] | rw [condK_bool] | rw [guardD_cases]); split <;> simp only [c12_l1, hE, hi, evX, Int.reduceEq, Int.reduceLT, Int.reduceLE, Nat.reduceMul, Nat.reduceMod, evW, evR, Nat.reduceAdd, Nat.reduceLT, Nat.reduceLeDiff, reduceIte, Nat.reduceEqDiff, reduceCtorEq, argEnv, eq_self, if_true, if_false, *])
      exact q_exit ⟨_, G, rfl, by rfl⟩
set_option maxHeartbeats 4000000 in
theorem f12 (f : Form) (g : FormG f) (p : List ByteArray) (hp : PicF f p) (H : Heap) : cal (evC cprog) true 12 [eForm f, eStrs p] H = some (.tup [eStrs (outF p (mxI Slot.inn f.slots).toNat f.slots), .int .i64 0], H) := by
  rw [cal_of at12]
  have h51 := f51 f g p hp
  have h48 := f48 f g
  have hl2 := (sSlots [] f.slots).len
  simp only [List.length_map] at hl2
  have hcl : (eStrs p).cells = [eStrs p] := rfl
  have htl : (eStrs p).isTup = false := rfl
  obtain ⟨b1, b2, b3⟩ := mx_ge Slot.inn f.slots 0
  obtain ⟨n, hn⟩ : ∃ n : Nat, mxI Slot.inn f.slots = (n : Int) := ⟨(mxI Slot.inn f.slots).toNat, (Int.toNat_of_nonneg b1).symm⟩
  have hn4 : n ≤ 4 := by
    have := b3 (fun s hs => by have := (g.slotAt hs).2.1; omega) (by omega)
    unfold mxI at hn
    omega
  have hlt : ∀ s ∈ f.slots, s.inn < (n : Int) := fun s h => by
    rw [← hn]
    have := b2 s h
    unfold mxI
    omega
  simp only [eForm] at h48 h51
  rw [hn] at h48 ⊢
  rw [Int.toNat_natCast]
  obtain ⟨K, hK⟩ : ∃ K : Heap, K = H ++ [bForm f] := ⟨_, rfl⟩
  have kl : K.length = H.length + 1 := by rw [hK]; simp
  have kt : ∀ Z, (K ++ Z).take H.length = H := fun Z => by rw [hK]; simp
  have hlo := outF_len p n f.slots
  have L := l12_1 f g p hp n hlt hn4 K
  by_cases h0 : n = 0
  · subst h0
    have hm := fun K : Heap => mks_none K
    simp only [Int.natCast_zero] at h48
    simp only [c12, eForm, hcl, htl, h51, h48, hm, hl2, evX, Int.reduceEq, Int.reduceLT, Int.reduceLE, Nat.reduceMul, Nat.reduceMod, evW, fn_eq, evR, Nat.reduceAdd, Nat.reduceLT, Nat.reduceLeDiff, reduceIte, Nat.reduceEqDiff, reduceCtorEq, argEnv, eq_self, if_true, if_false]
    repeat' ((first | rw [guardK_cases] | rw [condK_bool] | rw [guardD_cases]); split <;> simp only [c12, eForm, hcl, htl, h51, h48, hm, hl2, evX, Int.reduceEq, Int.reduceLT, Int.reduceLE, Nat.reduceMul, Nat.reduceMod, evW, evR, Nat.reduceAdd, Nat.reduceLT, Nat.reduceLeDiff, reduceIte, Nat.reduceEqDiff, reduceCtorEq, argEnv, eq_self, if_true, if_false, *])
    generalize hz : itLim _ _ = z
    obtain ⟨T, G, rfl, hT⟩ := L _ (by rfl) (by rw [hK]; simp [bForm, hbO]) z hz
    have ht := kt (hbO 0 (outF p 0 f.slots) ++ G)
    generalize K ++ (hbO 0 (outF p 0 f.slots) ++ G) = Z at *
    have ho : outF p 0 f.slots = [] := List.eq_nil_of_length_eq_zero hlo
    rw [ho]
    have hr0 : raO 0 K.length = .nil0 := rfl
    rw [hr0] at hT
    simp only [hT, evX, Int.reduceEq, Int.reduceLT, Int.reduceLE, Nat.reduceMul, Nat.reduceMod, evW, fn_eq, evR, Nat.reduceAdd, Nat.reduceLT, Nat.reduceLeDiff, reduceIte, Nat.reduceEqDiff, reduceCtorEq, argEnv, eq_self, if_true, if_false]
    repeat' ((first | rw [guardK_cases] | rw [condK_bool] | rw [guardD_cases]); split <;> simp only [hT, evX, Int.reduceEq, Int.reduceLT, Int.reduceLE, Nat.reduceMul, Nat.reduceMod, evW, evR, Nat.reduceAdd, Nat.reduceLT, Nat.reduceLeDiff, reduceIte, Nat.reduceEqDiff, reduceCtorEq, argEnv, eq_self, if_true, if_false, *])
    exact frz_two (ids := []) rfl rfl ht (by simp) _ _
  · have hm := fun K : Heap => mks_strs K n (by omega) (by omega)
    simp only [c12, eForm, hcl, htl, h51, h48, hm, hl2, evX, Int.reduceEq, Int.reduceLT, Int.reduceLE, Nat.reduceMul, Nat.reduceMod, evW, fn_eq, evR, Nat.reduceAdd, Nat.reduceLT, Nat.reduceLeDiff, reduceIte, Nat.reduceEqDiff, reduceCtorEq, argEnv, eq_self, if_true, if_false]
    repeat' ((first | rw [guardK_cases] | rw [condK_bool] | rw [guardD_cases]); split <;> simp only [c12, eForm, hcl, htl, h51, h48, hm, hl2, evX, Int.reduceEq, Int.reduceLT, Int.reduceLE, Nat.reduceMul, Nat.reduceMod, evW, evR, Nat.reduceAdd, Nat.reduceLT, Nat.reduceLeDiff, reduceIte, Nat.reduceEqDiff, reduceCtorEq, argEnv, eq_self, if_true, if_false, *])
    generalize hz : itLim _ _ = z
    obtain ⟨T, G, rfl, hT⟩ := L _ (by rw [show raO n K.length = .ref (H.length + 1) 0 1 0 n by unfold raO; rw [if_neg h0, kl]]; rfl) (by rw [hK]; simp [bForm, hbO, h0]) z hz
    have hr0 : raO n K.length = .ref K.length 0 1 0 n := if_neg h0
    have hb0 : hbO n (outF p n f.slots) = [⟨0, true, 9, 1, (outF p n f.slots).map rS⟩] := if_neg h0
    rw [hb0]
    rw [hr0] at hT
    have ht := kt ([⟨0, true, 9, 1, (outF p n f.slots).map rS⟩] ++ G)
    obtain ⟨ids, g1, g2⟩ := fz_blk (H := K ++ ([⟨0, true, 9, 1, (outF p n f.slots).map rS⟩] ++ G)) (b := K.length) (v := 0) (sz := 1) (len := n) (k := ⟨0, true, 9, 1, (outF p n f.slots).map rS⟩) (by simp [curBlk]) (rows := (outF p n f.slots).map rS) (by rw [List.take_of_length_le (by rw [List.length_map, hlo]; exact Nat.le_refl _)]) (plain_S _) 6
    generalize K ++ ([⟨0, true, 9, 1, (outF p n f.slots).map rS⟩] ++ G) = Z at *
    simp only [hT, evX, Int.reduceEq, Int.reduceLT, Int.reduceLE, Nat.reduceMul, Nat.reduceMod, evW, fn_eq, evR, Nat.reduceAdd, Nat.reduceLT, Nat.reduceLeDiff, reduceIte, Nat.reduceEqDiff, reduceCtorEq, argEnv, eq_self, if_true, if_false]
    repeat' ((first | rw [guardK_cases] | rw [condK_bool] | rw [guardD_cases]); split <;> simp only [hT, evX, Int.reduceEq, Int.reduceLT, Int.reduceLE, Nat.reduceMul, Nat.reduceMod, evW, evR, Nat.reduceAdd, Nat.reduceLT, Nat.reduceLeDiff, reduceIte, Nat.reduceEqDiff, reduceCtorEq, argEnv, eq_self, if_true, if_false, *])
    exact frz_two g1 rfl ht (fun x hx => by have := g2 x hx; omega) _ _
end Go.Proofs.Ytondenmkhfignaa.Code

/- screen: messages that come back as they were. -/
set_option linter.unusedSimpArgs false
set_option linter.unusedVariables false
namespace Go.Proofs.Ytondenmkhfignaa.Code
open Go.Proofs.Ytondenmkhfignaa.Ev

def lastF (t : ByteArray) (c : UInt8) : Bool := decide (0 < t.size) && decide (t.data.toList[t.size - 1]? = some c)
def okP (l : List ByteArray) (s : Slot) : Bool := decide (s.inn = s.out) && (decide (s.out < 0) || (decide (((rowP l s.out.toNat).size : Int) ≤ s.bytes) && !lastF (rowP l s.out.toNat) s.fill))
def leftG (o : List ByteArray) (s : Slot) : List ByteArray := if s.out < 0 then o else o.set s.out.toNat ⟨#[]⟩
def leftF (l : List ByteArray) (L : List Slot) : List ByteArray := L.foldl leftG l
theorem left_len : ∀ (L : List Slot) (o : List ByteArray), (L.foldl leftG o).length = o.length
  | [], o => rfl
  | s :: L, o => by
    rw [List.foldl_cons, left_len L]
    unfold leftG
    split
    · rfl
    · rw [List.length_set]
set_option maxHeartbeats 8000000 in
theorem l13_0 (f : Form) (g : FormG f) (l : List ByteArray) (hs : ∀ s ∈ f.slots, s.out < (l.length : Int)) (hsz : ∀ t ∈ l, t.size ≤ 1000000) (b : Nat) (K : Heap) (hb : Sits K b (bForm f)) (st : St) (hE : keepEnv st.1 [1, 2, 5, 6] = [(1, eStrs l), (2, .ptr b 0 4 0 0), (5, raO l.length K.length), (6, .int .i64 0)]) (hH : st.2 = K ++ (hbO l.length l ++ [])) (z : Option (CX × St)) (hz : itLim (evCode (evC cprog) itLim c13_l0) st = z) :
    (∃ T G, z = some (.exit 0, T, K ++ (hbO l.length (leftF l f.slots) ++ G)) ∧ keepEnv T [5] = [(5, raO l.length K.length)] ∧ ∀ s ∈ f.slots, okP l s = true) ∨ (∃ T Y, z = some (.ret, T, K ++ Y) ∧ get T 4 = some (.bool false)) := by
  have hsl := g.sl
  have hl2 := (sSlots [] f.slots).len
  simp only [List.length_map] at hl2
  have hbf := hb
  simp only [bForm, Sits] at hbf
  have L := loop_rule (σ := Nat × Heap) (m := [1, 2, 5, 6]) (env := fun s => [(1, eStrs l), (2, .ptr b 0 4 0 0), (5, raO l.length K.length), (6, .int .i64 (s.1 : Int))]) (hp := fun s => K ++ (hbO l.length (leftF l (f.slots.take s.1)) ++ s.2))
    (P := fun _ r => (∃ T G, r = (.exit 0, T, K ++ (hbO l.length (leftF l f.slots) ++ G)) ∧ keepEnv T [5] = [(5, raO l.length K.length)] ∧ ∀ s ∈ f.slots, okP l s = true) ∨ (∃ T Y, r = (.ret, T, K ++ Y) ∧ get T 4 = some (.bool false)))
    (mu := fun s => f.slots.length - s.1) (I := fun s => s.1 ≤ f.slots.length ∧ ∀ x ∈ f.slots.take s.1, okP l x = true) (evCode (evC cprog) itLim c13_l0) ?_ (0, []) st ⟨Nat.zero_le _, by simp⟩ hE hH z hz
  · obtain ⟨_, rfl, L⟩ := L
    rcases L with ⟨T, G, rfl, h⟩ | ⟨T, Y, rfl, h⟩
    · exact .inl ⟨T, G, rfl, h⟩
    · exact .inr ⟨T, Y, rfl, h⟩
  · rintro ⟨i, G⟩ ⟨hi', hI⟩ E hE
    simp only at hi' hI hE ⊢
    by_cases hlt : i < f.slots.length
    · obtain ⟨x, hx⟩ : ∃ x, f.slots[i]? = some x := ⟨_, List.getElem?_eq_getElem hlt⟩
      have hm := List.mem_of_getElem? hx
      have hi : (i : Int) < (f.slots.length : Int) := by omega
      have ha := aSlot hx
      obtain ⟨p1, p2, p3, p4, _, _, _, _, s4, s5⟩ := g.slotAt hm
      have hw := wrapS hlt (by omega)
      have hstep : leftF l (f.slots.take (i + 1)) = leftG (leftF l (f.slots.take i)) x := by
        unfold leftF
        rw [List.take_add_one, hx, Option.toList_some, List.foldl_append]
        rfl
      have hnext : okP l x = true → ∀ y ∈ f.slots.take (i + 1), okP l y = true := fun h y hy => by
        rw [List.take_add_one, hx, Option.toList_some] at hy
        rcases List.mem_append.1 hy with hy | hy
        · exact hI y hy
        · rw [List.mem_singleton.1 hy]; exact h
      have hol : (leftF l (f.slots.take i)).length = l.length := left_len _ _
      by_cases c1 : x.inn = x.out
      case neg =>
        have c1' : (x.inn = x.out) = False := eq_false c1
        generalize hbO l.length (leftF l (f.slots.take i)) = B at *
        generalize raO l.length K.length = ra at *
        clear c1 hnext
        simp only [c13_l0, hE, hbf, hi, hl2, ha, rSlot, c1', evX, Int.reduceEq, Int.reduceLT, Int.reduceLE, Nat.reduceMul, Nat.reduceMod, evW, fn_eq, evR, Nat.reduceAdd, Nat.reduceLT, Nat.reduceLeDiff, reduceIte, Nat.reduceEqDiff, reduceCtorEq, argEnv, eq_self, if_true, if_false]
        repeat' ((first | rw [guardK_cases] | rw [condK_bool] | rw [guardD_cases]); split <;> simp only [c13_l0, hE, hbf, hi, hl2, ha, rSlot, c1', evX, Int.reduceEq, Int.reduceLT, Int.reduceLE, Nat.reduceMul, Nat.reduceMod, evW, evR, Nat.reduceAdd, Nat.reduceLT, Nat.reduceLeDiff, reduceIte, Nat.reduceEqDiff, reduceCtorEq, argEnv, eq_self, if_true, if_false, *])
        exact q_ret (.inr ⟨_, _, rfl, rfl⟩)
      have c1' : (x.inn = x.out) = True := eq_true c1
      by_cases c2 : x.out < 0
      · have hst : leftF l (f.slots.take (i + 1)) = leftF l (f.slots.take i) := by rw [hstep]; unfold leftG; rw [if_pos c2]
        have hok := hnext (by unfold okP; rw [decide_eq_true c1, decide_eq_true c2]; rfl)
        generalize hB : hbO l.length (leftF l (f.slots.take i)) = B at *
        generalize raO l.length K.length = ra at *
        clear c1 hnext hol
        simp only [c13_l0, hE, hbf, hi, hl2, ha, rSlot, c1', c2, hw, evX, Int.reduceEq, Int.reduceLT, Int.reduceLE, Nat.reduceMul, Nat.reduceMod, evW, fn_eq, evR, Nat.reduceAdd, Nat.reduceLT, Nat.reduceLeDiff, reduceIte, Nat.reduceEqDiff, reduceCtorEq, argEnv, eq_self, if_true, if_false]
        repeat' ((first | rw [guardK_cases] | rw [condK_bool] | rw [guardD_cases]); split <;> simp only [c13_l0, hE, hbf, hi, hl2, ha, rSlot, c1', c2, hw, evX, Int.reduceEq, Int.reduceLT, Int.reduceLE, Nat.reduceMul, Nat.reduceMod, evW, evR, Nat.reduceAdd, Nat.reduceLT, Nat.reduceLeDiff, reduceIte, Nat.reduceEqDiff, reduceCtorEq, argEnv, eq_self, if_true, if_false, *])
        exact q_next (i + 1, G ++ [bSlot x]) (by rfl) (by simp only; rw [hst, hB]; rfl) ⟨hlt, hok⟩ (by simp only; omega) fun r h => h
      have hol2 := hs x hm
      have hal := aS (rowP_lt (l := l) (k := x.out.toNat) (by omega))
      rw [Int.toNat_of_nonneg (by omega)] at hal
      have htz := hsz (rowP l x.out.toNat) (List.mem_of_getElem? (rowP_lt (l := l) (k := x.out.toNat) (by omega)))
      have hln : l.length ≠ 0 := by omega
      have hra : raO l.length K.length = .ref K.length 0 1 0 l.length := if_neg hln
      have hbo : ∀ o, hbO l.length o = [⟨0, true, 9, 1, o.map rS⟩] := fun o => if_neg hln
      have hoi : asNat (.int .i64 x.out) = some x.out.toNat := asNat_int (by omega) _
      have hol3 : x.out.toNat < l.length := by omega
      have hst : leftF l (f.slots.take (i + 1)) = (leftF l (f.slots.take i)).set x.out.toNat ⟨#[]⟩ := by rw [hstep]; unfold leftG; rw [if_neg c2]
      have hset : ((leftF l (f.slots.take i)).map rS).set x.out.toNat [.str ⟨#[]⟩] = (leftF l (f.slots.take (i + 1))).map rS := by rw [hst, List.map_set]; rfl
      obtain ⟨y, hy⟩ : ∃ y, ((leftF l (f.slots.take i)).map rS)[x.out.toNat]? = some [.str y] := ⟨_, by rw [List.getElem?_map, List.getElem?_eq_getElem (by rw [hol]; exact hol3)]; rfl⟩
      have hokp : okP l x = (decide (((rowP l x.out.toNat).size : Int) ≤ x.bytes) && !lastF (rowP l x.out.toNat) x.fill) := by
        unfold okP
        rw [decide_eq_true c1, decide_eq_false c2]; rfl
      simp only [hra, hbo] at hE ⊢
      clear hst hstep hol hln hol2 c1
      generalize (leftF l (f.slots.take i)).map rS = els at *
      generalize hel : (leftF l (f.slots.take (i + 1))).map rS = els' at *
      generalize rowP l x.out.toNat = t at *
      by_cases c3 : (t.size : Int) ≤ x.bytes
      case neg =>
        have c3' : x.bytes < (t.size : Int) := by omega
        simp only [c13_l0, hE, hbf, hi, hl2, ha, rSlot, c1', c2, hal, rS, c3', evX, Int.reduceEq, Int.reduceLT, Int.reduceLE, Nat.reduceMul, Nat.reduceMod, evW, fn_eq, evR, Nat.reduceAdd, Nat.reduceLT, Nat.reduceLeDiff, reduceIte, Nat.reduceEqDiff, reduceCtorEq, argEnv, eq_self, if_true, if_false]
        repeat' ((first | rw [guardK_cases] | rw [condK_bool] | rw [guardD_cases]); split <;> simp only [c13_l0, hE, hbf, hi, hl2, ha, rSlot, c1', c2, hal, rS, c3', evX, Int.reduceEq, Int.reduceLT, Int.reduceLE, Nat.reduceMul, Nat.reduceMod, evW, evR, Nat.reduceAdd, Nat.reduceLT, Nat.reduceLeDiff, reduceIte, Nat.reduceEqDiff, reduceCtorEq, argEnv, eq_self, if_true, if_false, *])
        exact q_ret (.inr ⟨_, _, rfl, rfl⟩)
      have c3' : ¬ x.bytes < (t.size : Int) := by omega
      by_cases c4 : 0 < t.size
      · have c4' : (0 : Int) < (t.size : Int) := by omega
        obtain ⟨c, hc⟩ : ∃ c, t.data.toList[t.size - 1]? = some c := ⟨_, List.getElem?_eq_getElem (by rw [size_eq]; omega)⟩
        have hid := idx_at t hc
        have hw1 : IntKind.i64.wrap ((t.size : Int) - 1) = ((t.size - 1 : Nat) : Int) := by rw [wrap_i64 (by omega) (by omega)]; omega
        by_cases c5 : c = x.fill
        · have c5' : ((c.toNat : Int) = (x.fill.toNat : Int)) = True := by rw [u8_eq]; exact eq_true c5
          clear c5 hnext c3 c4
          simp only [c13_l0, hE, hbf, hi, hl2, ha, rSlot, c1', c2, hal, rS, c3', c4', hw1, hid, c5', evX, Int.reduceEq, Int.reduceLT, Int.reduceLE, Nat.reduceMul, Nat.reduceMod, evW, fn_eq, evR, Nat.reduceAdd, Nat.reduceLT, Nat.reduceLeDiff, reduceIte, Nat.reduceEqDiff, reduceCtorEq, argEnv, eq_self, if_true, if_false]
          repeat' ((first | rw [guardK_cases] | rw [condK_bool] | rw [guardD_cases]); split <;> simp only [c13_l0, hE, hbf, hi, hl2, ha, rSlot, c1', c2, hal, rS, c3', c4', hw1, hid, c5', evX, Int.reduceEq, Int.reduceLT, Int.reduceLE, Nat.reduceMul, Nat.reduceMod, evW, evR, Nat.reduceAdd, Nat.reduceLT, Nat.reduceLeDiff, reduceIte, Nat.reduceEqDiff, reduceCtorEq, argEnv, eq_self, if_true, if_false, *])
          exact q_ret (.inr ⟨_, _, rfl, rfl⟩)
        · have c5' : ((c.toNat : Int) = (x.fill.toNat : Int)) = False := by rw [u8_eq]; exact eq_false c5
          have hok := hnext (by rw [hokp, decide_eq_true c3]; unfold lastF; rw [hc]; simp [c5])
          clear c5 hnext c3 c4
          simp only [c13_l0, hE, hbf, hi, hl2, ha, rSlot, c1', c2, hal, rS, c3', c4', hw1, hid, c5', hoi, hol3, hy, hset, hw, evX, Int.reduceEq, Int.reduceLT, Int.reduceLE, Nat.reduceMul, Nat.reduceMod, evW, fn_eq, evR, Nat.reduceAdd, Nat.reduceLT, Nat.reduceLeDiff, reduceIte, Nat.reduceEqDiff, reduceCtorEq, argEnv, eq_self, if_true, if_false]
          repeat' ((first | rw [guardK_cases] | rw [condK_bool] | rw [guardD_cases]); split <;> simp only [c13_l0, hE, hbf, hi, hl2, ha, rSlot, c1', c2, hal, rS, c3', c4', hw1, hid, c5', hoi, hol3, hy, hset, hw, evX, Int.reduceEq, Int.reduceLT, Int.reduceLE, Nat.reduceMul, Nat.reduceMod, evW, evR, Nat.reduceAdd, Nat.reduceLT, Nat.reduceLeDiff, reduceIte, Nat.reduceEqDiff, reduceCtorEq, argEnv, eq_self, if_true, if_false, *])
          exact q_next (i + 1, G ++ [bSlot x]) (by rfl) (by simp only; rw [hel]; rfl) ⟨hlt, hok⟩ (by simp only; omega) fun r h => h
      · have c4' : ¬ (0 : Int) < (t.size : Int) := by omega
        have hok := hnext (by rw [hokp, decide_eq_true c3]; unfold lastF; rw [decide_eq_false c4]; rfl)
        clear hnext c3 c4
        simp only [c13_l0, hE, hbf, hi, hl2, ha, rSlot, c1', c2, hal, rS, c3', c4', hoi, hol3, hy, hset, hw, evX, Int.reduceEq, Int.reduceLT, Int.reduceLE, Nat.reduceMul, Nat.reduceMod, evW, fn_eq, evR, Nat.reduceAdd, Nat.reduceLT, Nat.reduceLeDiff, reduceIte, Nat.reduceEqDiff, reduceCtorEq, argEnv, eq_self, if_true, if_false]
        repeat' ((first | rw [guardK_cases] | rw [condK_bool] | rw [guardD_cases]); split <;> simp only [c13_l0, hE, hbf, hi, hl2, ha, rSlot, c1', c2, hal, rS, c3', c4', hoi, hol3, hy, hset, hw, evX, Int.reduceEq, Int.reduceLT, Int.reduceLE, Nat.reduceMul, Nat.reduceMod, evW, evR, Nat.reduceAdd, Nat.reduceLT, Nat.reduceLeDiff, reduceIte, Nat.reduceEqDiff, reduceCtorEq, argEnv, eq_self, if_true, if_false, *])
        exact q_next (i + 1, G ++ [bSlot x]) (by rfl) (by simp only; rw [hel]; rfl) ⟨hlt, hok⟩ (by simp only; omega) fun r h => h
    · have hi : ¬ (i : Int) < (f.slots.length : Int) := by omega
      rw [List.take_of_length_le (by omega)] at hI ⊢
      generalize raO l.length K.length = ra at *
      simp only [c13_l0, hE, hbf, hi, hl2, evX, Int.reduceEq, Int.reduceLT, Int.reduceLE, Nat.reduceMul, Nat.reduceMod, evW, fn_eq, evR, Nat.reduceAdd, Nat.reduceLT, Nat.reduceLeDiff, reduceIte, Nat.reduceEqDiff, reduceCtorEq, argEnv, eq_self, if_true, if_false]
      repeat' ((first | rw [guardK_cases] | rw [condK_bool] | rw [guardD_cases]); split <;> simp only [c13_l0, hE, hbf, hi, hl2, evX, Int.reduceEq, Int.reduceLT, Int.reduceLE, Nat.reduceMul, Nat.reduceMod, evW, evR, Nat.reduceAdd, Nat.reduceLT, Nat.reduceLeDiff, reduceIte, Nat.reduceEqDiff, reduceCtorEq, argEnv, eq_self, if_true, if_false, *])
      exact q_exit (.inl ⟨_, G, rfl, by rfl, hI⟩)
end Go.Proofs.Ytondenmkhfignaa.Code

