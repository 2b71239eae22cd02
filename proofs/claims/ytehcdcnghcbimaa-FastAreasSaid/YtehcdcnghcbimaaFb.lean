/- fast: which tables are valid. -/
import Derived.Test.YtehcdcnghcbimaaFa
set_option linter.unusedSimpArgs false
set_option linter.unusedVariables false
namespace Go.Proofs.Ytehcdcnghcbimaa.Code
open Go.Proofs.Ytehcdcnghcbimaa.Ev

/-- rows that lie somewhere -/
structure RowsAt (H : Heap) (rv : AV) (rows : List Row) : Prop where
  rws : ∃ rws : List (List AV), SlAt H 2 rv rws ∧ rws.length = rows.length ∧ ∀ (i : Nat) (r : Row), rows[i]? = some r → ∃ v, rws[i]? = some [.str r.1, v] ∧ SlAt H 1 v (r.2.map fun n => [.int .i64 n])
theorem RowsAt.app {H : Heap} {rv : AV} {rows : List Row} (h : RowsAt H rv rows) (G : Heap) : RowsAt (H ++ G) rv rows := by
  obtain ⟨rws, h1, h2, h3⟩ := h.rws
  exact ⟨rws, h1.app G, h2, fun i r hr => let ⟨v, k1, k2⟩ := h3 i r hr; ⟨v, k1, k2.app G⟩⟩
theorem RowsAt.len {H : Heap} {rv : AV} {rows : List Row} (h : RowsAt H rv rows) : lenK false (some rv) = some (.int .i64 (rows.length : Int)) := by
  obtain ⟨rws, h1, h2, _⟩ := h.rws
  rw [h1.len, h2]
theorem RowsAt.get {H : Heap} {rv : AV} {rows : List Row} (h : RowsAt H rv rows) {i : Nat} {r : Row} (hr : rows[i]? = some r) :
    ∃ v p, SlAt H 1 v (r.2.map fun n => [.int .i64 n]) ∧ iaddrK 2 (some rv) (some (.int .i64 (i : Int))) = some p ∧ PtrAt H p [.str r.1, v] := by
  obtain ⟨rws, h1, h2, h3⟩ := h.rws
  obtain ⟨v, k1, k2⟩ := h3 i r hr
  obtain ⟨_, p, k3, k4⟩ := h1.get i _ k1
  exact ⟨v, p, k2, k3, k4⟩
theorem RowsAt.lst (H : Heap) (rows : List Row) : RowsAt H (.lst (rows.map rRow)) rows :=
  ⟨rows.map rRow, .lst fun r hr => (by obtain ⟨x, _, rfl⟩ := List.mem_map.1 hr; rfl), by simp, fun i r hr => ⟨eInts r.2, by rw [List.getElem?_map, hr]; rfl, sInts H r.2⟩⟩

def keyAt (rows : List Row) (i : Nat) : ByteArray := match rows[i]? with
  | some r => r.1
  | none => ByteArray.empty
/-- what is asked of a row -/
def rowOk (F : Int) (rows : List Row) (i : Nat) (r : Row) : Bool :=
  isKey r.1 && (decide (i = 0) || bLt (keyAt rows (i - 1)) r.1) && decide ((r.2.length : Int) = F) && r.2.all isAmount
noncomputable def rowsOk (F : Int) (rows : List Row) : Bool := tell (∀ (i : Nat) (r : Row), rows[i]? = some r → rowOk F rows i r = true)
noncomputable def valid (t : Table) : Bool := decide (1 ≤ t.1) && decide (t.1 ≤ 4) && decide ((t.2.length : Int) ≤ 20) && rowsOk t.1 t.2
def lim : Nat := 9223372036854775807

theorem loop17 (b : Nat) (Hh : Heap) (P1 i : AV) (s : ByteArray) (v : AV) (vs : List Int) (hv : SlAt Hh 1 v (vs.map fun n => [.int .i64 n])) (hl : vs.length < 9223372036854775807) (hb : Hh[b]? = some ⟨0, true, 76, 2, [[.str s, v]]⟩)
    (st : St) (hE : keepEnv st.1 [1, 3, 4, 5] = [(1, P1), (3, i), (4, .ptr b 0 2 0 0), (5, .int .i64 0)]) (hH : st.2 = Hh) (z : Option (CX × St)) (hz : itLim (evCode (evC cprog) itLim c17_l0) st = z) :
    (vs.all isAmount = true ∧ Lv Hh [] (fun c T => c = .exit 2 ∧ keepEnv T [1, 3] = [(1, P1), (3, i)]) z) ∨ (vs.all isAmount = false ∧ Lv Hh [] (fun c T => c = .ret ∧ get T 2 = some (.bool false)) z) := by
  have hb' : ∀ X, (Hh ++ X)[b]? = some ⟨0, true, 76, 2, [[.str s, v]]⟩ := fun X => by
    rw [List.getElem?_append_left (List.getElem?_eq_some_iff.1 hb).1]; exact hb
  have h4 := hv.len
  simp only [List.length_map] at h4
  exact all_rule vs isAmount [1, 3, 4, 5] (fun k => [(1, P1), (3, i), (4, .ptr b 0 2 0 0), (5, .int .i64 (k : Int))]) Hh [] (evCode (evC cprog) itLim c17_l0) _ _
    (fun k n hk E G hE => by
      have hlt : k < vs.length := (List.getElem?_eq_some_iff.1 hk).1
      have hi : (k : Int) < (vs.length : Int) := by omega
      obtain ⟨_, p, hp, hat⟩ := hv.get k [.int .i64 n] (by rw [List.getElem?_map, hk]; rfl)
      simp only [c17_l0, hE, hb', h4, hi, hp, hat.onex, f51, wrapS hlt hl, fn_eq, evR, Nat.reduceAdd, Nat.reduceLT, Nat.reduceLeDiff, reduceIte, Nat.reduceEqDiff, reduceCtorEq, argEnv, eq_self, if_true, if_false]
      repeat' (first | (rw [guardK_cases]; split <;> simp only [c17_l0, hE, hb', h4, hi, hp, hat.onex, f51, wrapS hlt hl, evR, Nat.reduceAdd, Nat.reduceLT, Nat.reduceLeDiff, reduceIte, Nat.reduceEqDiff, reduceCtorEq, argEnv, eq_self, if_true, if_false, *]) | (rw [condK_bool]; split <;> simp only [c17_l0, hE, hb', h4, hi, hp, hat.onex, f51, wrapS hlt hl, evR, Nat.reduceAdd, Nat.reduceLT, Nat.reduceLeDiff, reduceIte, Nat.reduceEqDiff, reduceCtorEq, argEnv, eq_self, if_true, if_false, *]))
      all_goals first | exact Sc.next (by first | (simp_all [isAmount]; done) | (simp_all [isAmount]; intros; omega)) (by rfl) | exact Sc.ret (by first | (simp_all [isAmount]; done) | (simp_all [isAmount]; intros; omega)) ⟨rfl, by first | rfl | exact ⟨rfl, rfl, rfl⟩⟩ | exact Sc.exit (by first | (simp_all [isAmount]; done) | (simp_all [isAmount]; intros; omega)) ⟨rfl, rfl⟩)
    (fun E G hE => by
      simp only [c17_l0, hE, hb', h4, Int.lt_irrefl, fn_eq, evR, Nat.reduceAdd, Nat.reduceLT, Nat.reduceLeDiff, reduceIte, Nat.reduceEqDiff, reduceCtorEq, argEnv, eq_self, if_true, if_false]
      repeat' (first | (rw [guardK_cases]; split <;> simp only [c17_l0, hE, hb', h4, Int.lt_irrefl, evR, Nat.reduceAdd, Nat.reduceLT, Nat.reduceLeDiff, reduceIte, Nat.reduceEqDiff, reduceCtorEq, argEnv, eq_self, if_true, if_false, *]) | (rw [condK_bool]; split <;> simp only [c17_l0, hE, hb', h4, Int.lt_irrefl, evR, Nat.reduceAdd, Nat.reduceLT, Nat.reduceLeDiff, reduceIte, Nat.reduceEqDiff, reduceCtorEq, argEnv, eq_self, if_true, if_false, *]))
      exact .exit (K := []) ⟨rfl, by rfl⟩) st [] hE (by simp [hH]) z hz
theorem f17 (F : Int) (rows : List Row) (hl : rows.length < 9223372036854775807) (hvl : ∀ r ∈ rows, r.2.length < 9223372036854775807) (rv : AV) (H : Heap) (hr : RowsAt H rv rows) :
    cal (evC cprog) false 17 [.agg [.int .i64 F, rv]] H = some (.bool (valid (F, rows)), H) := by
  rw [cal_of at17]
  have h3 := hr.len
  simp only [c17, fn_eq, evR, Nat.reduceAdd, Nat.reduceLT, Nat.reduceLeDiff, reduceIte, Nat.reduceEqDiff, reduceCtorEq, argEnv, eq_self, if_true, if_false]
  repeat' (first | (rw [guardK_cases]; split <;> simp only [c17, evR, Nat.reduceAdd, Nat.reduceLT, Nat.reduceLeDiff, reduceIte, Nat.reduceEqDiff, reduceCtorEq, argEnv, eq_self, if_true, if_false, *]) | (rw [condK_bool]; split <;> simp only [c17, evR, Nat.reduceAdd, Nat.reduceLT, Nat.reduceLeDiff, reduceIte, Nat.reduceEqDiff, reduceCtorEq, argEnv, eq_self, if_true, if_false, *]))
  generalize hz : itLim _ _ = z
  have L := scan_rule rows (rowOk F rows) [1, 3] (fun i => [(1, .ptr H.length 0 2 0 0), (3, .int .i64 (i : Int))]) H [⟨0, true, 24, 2, [[.int .i64 F, rv]]⟩] (evCode (evC cprog) itLim c17_l1) (fun c T => c = .exit 0 ∧ keepEnv T [1] = [(1, .ptr H.length 0 2 0 0)]) (fun _ _ c T => c = .ret ∧ get T 2 = some (.bool false))
    (fun i r hx E G hE => by
      have hlt : i < rows.length := (List.getElem?_eq_some_iff.1 hx).1
      have hi : (i : Int) < (rows.length : Int) := by omega
      obtain ⟨v, p, hv, hp, hat⟩ := hr.get hx
      have h4 := hv.len
      simp only [List.length_map] at h4
      have hin : ∀ z, itLim (evCode (evC cprog) itLim c17_l0) ([(5, .int .i64 0), (1, .ptr H.length 0 2 0 0), (3, .int .i64 (i : Int)), (4, .ptr (H.length + (G.length + 1)) 0 2 0 0)], H ++ (⟨0, true, 24, 2, [[.int .i64 F, rv]]⟩ :: (G ++ [⟨0, true, 76, 2, [[.str r.1, v]]⟩]))) = z → _ :=
        fun z hz => loop17 (H.length + (G.length + 1)) _ (.ptr H.length 0 2 0 0) (.int .i64 (i : Int)) r.1 v r.2 (hv.app _) (hvl r (List.mem_of_getElem? hx)) (by simp only [evR, Nat.reduceAdd, Nat.reduceLT, Nat.reduceLeDiff, reduceIte, Nat.reduceEqDiff, reduceCtorEq, argEnv, eq_self, if_true, if_false]) _ (by rfl) rfl z hz
      by_cases hi0 : 0 < i
      · obtain ⟨r', hr'⟩ : ∃ r', rows[i - 1]? = some r' := ⟨_, List.getElem?_eq_getElem (by omega)⟩
        obtain ⟨v', p', hv', hp', hat'⟩ := hr.get hr'
        have hi1 : (0 : Int) < (i : Int) := by omega
        have hk : keyAt rows (i - 1) = r'.1 := by simp [keyAt, hr']
        simp only [c17_l1, hE, h3, h4, hi, hi1, hp, hp', hat'.faddr, hat'.fldx, hat.aggx (n := 2) rfl, hat.faddr, hat.fldx, wrapS hlt hl, wrapP hlt hi0 hl, fn_eq, evR, Nat.reduceAdd, Nat.reduceLT, Nat.reduceLeDiff, reduceIte, Nat.reduceEqDiff, reduceCtorEq, argEnv, eq_self, if_true, if_false]
        repeat' (first | (rw [guardK_cases]; split <;> simp only [c17_l1, hE, h3, h4, hi, hi1, hp, hp', hat'.faddr, hat'.fldx, hat.aggx (n := 2) rfl, hat.faddr, hat.fldx, wrapS hlt hl, wrapP hlt hi0 hl, evR, Nat.reduceAdd, Nat.reduceLT, Nat.reduceLeDiff, reduceIte, Nat.reduceEqDiff, reduceCtorEq, argEnv, eq_self, if_true, if_false, *]) | (rw [condK_bool]; split <;> simp only [c17_l1, hE, h3, h4, hi, hi1, hp, hp', hat'.faddr, hat'.fldx, hat.aggx (n := 2) rfl, hat.faddr, hat.fldx, wrapS hlt hl, wrapP hlt hi0 hl, evR, Nat.reduceAdd, Nat.reduceLT, Nat.reduceLeDiff, reduceIte, Nat.reduceEqDiff, reduceCtorEq, argEnv, eq_self, if_true, if_false, *]))
        all_goals first | exact Sc.ret (by first | (simp_all [rowOk, isKey]; done) | (simp_all [rowOk, isKey]; intros; omega)) ⟨rfl, rfl⟩ | skip
        generalize hz : itLim _ _ = z
        rcases hin z hz with ⟨ha, c, T, G', rfl, _, rfl, hT⟩ | ⟨ha, c, T, G', rfl, _, rfl, hT⟩
        · simp only [hT, wrapS hlt hl, fn_eq, evR, Nat.reduceAdd, Nat.reduceLT, Nat.reduceLeDiff, reduceIte, Nat.reduceEqDiff, reduceCtorEq, argEnv, eq_self, if_true, if_false]
          repeat' (first | (rw [guardK_cases]; split <;> simp only [hT, wrapS hlt hl, evR, Nat.reduceAdd, Nat.reduceLT, Nat.reduceLeDiff, reduceIte, Nat.reduceEqDiff, reduceCtorEq, argEnv, eq_self, if_true, if_false, *]) | (rw [condK_bool]; split <;> simp only [hT, wrapS hlt hl, evR, Nat.reduceAdd, Nat.reduceLT, Nat.reduceLeDiff, reduceIte, Nat.reduceEqDiff, reduceCtorEq, argEnv, eq_self, if_true, if_false, *]))
          all_goals first | exact Sc.next (by first | (simp_all [rowOk, isKey]; done) | (simp_all [rowOk, isKey]; intros; omega)) (by rfl) | exact Sc.ret (by first | (simp_all [rowOk, isKey]; done) | (simp_all [rowOk, isKey]; intros; omega)) ⟨rfl, by first | rfl | exact ⟨rfl, rfl, rfl⟩⟩ | exact Sc.exit (by first | (simp_all [rowOk, isKey]; done) | (simp_all [rowOk, isKey]; intros; omega)) ⟨rfl, rfl⟩
        · simp only [hT, fn_eq, evR, Nat.reduceAdd, Nat.reduceLT, Nat.reduceLeDiff, reduceIte, Nat.reduceEqDiff, reduceCtorEq, argEnv, eq_self, if_true, if_false]
          repeat' (first | (rw [guardK_cases]; split <;> simp only [hT, evR, Nat.reduceAdd, Nat.reduceLT, Nat.reduceLeDiff, reduceIte, Nat.reduceEqDiff, reduceCtorEq, argEnv, eq_self, if_true, if_false, *]) | (rw [condK_bool]; split <;> simp only [hT, evR, Nat.reduceAdd, Nat.reduceLT, Nat.reduceLeDiff, reduceIte, Nat.reduceEqDiff, reduceCtorEq, argEnv, eq_self, if_true, if_false, *]))
          exact Sc.ret (by simp_all [rowOk, isKey]) ⟨rfl, hT⟩
      · have hi1 : ¬ (0 : Int) < (i : Int) := by omega
        simp only [c17_l1, hE, h3, h4, hi, hi1, hp, hat.aggx (n := 2) rfl, hat.faddr, hat.fldx, wrapS hlt hl, fn_eq, evR, Nat.reduceAdd, Nat.reduceLT, Nat.reduceLeDiff, reduceIte, Nat.reduceEqDiff, reduceCtorEq, argEnv, eq_self, if_true, if_false]
        repeat' (first | (rw [guardK_cases]; split <;> simp only [c17_l1, hE, h3, h4, hi, hi1, hp, hat.aggx (n := 2) rfl, hat.faddr, hat.fldx, wrapS hlt hl, evR, Nat.reduceAdd, Nat.reduceLT, Nat.reduceLeDiff, reduceIte, Nat.reduceEqDiff, reduceCtorEq, argEnv, eq_self, if_true, if_false, *]) | (rw [condK_bool]; split <;> simp only [c17_l1, hE, h3, h4, hi, hi1, hp, hat.aggx (n := 2) rfl, hat.faddr, hat.fldx, wrapS hlt hl, evR, Nat.reduceAdd, Nat.reduceLT, Nat.reduceLeDiff, reduceIte, Nat.reduceEqDiff, reduceCtorEq, argEnv, eq_self, if_true, if_false, *]))
        all_goals first | exact Sc.ret (by first | (simp_all [rowOk, isKey]; done) | (simp_all [rowOk, isKey]; intros; omega)) ⟨rfl, rfl⟩ | skip
        generalize hz : itLim _ _ = z
        rcases hin z hz with ⟨ha, c, T, G', rfl, _, rfl, hT⟩ | ⟨ha, c, T, G', rfl, _, rfl, hT⟩
        · simp only [hT, wrapS hlt hl, fn_eq, evR, Nat.reduceAdd, Nat.reduceLT, Nat.reduceLeDiff, reduceIte, Nat.reduceEqDiff, reduceCtorEq, argEnv, eq_self, if_true, if_false]
          repeat' (first | (rw [guardK_cases]; split <;> simp only [hT, wrapS hlt hl, evR, Nat.reduceAdd, Nat.reduceLT, Nat.reduceLeDiff, reduceIte, Nat.reduceEqDiff, reduceCtorEq, argEnv, eq_self, if_true, if_false, *]) | (rw [condK_bool]; split <;> simp only [hT, wrapS hlt hl, evR, Nat.reduceAdd, Nat.reduceLT, Nat.reduceLeDiff, reduceIte, Nat.reduceEqDiff, reduceCtorEq, argEnv, eq_self, if_true, if_false, *]))
          all_goals first | exact Sc.next (by first | (simp_all [rowOk, isKey]; done) | (simp_all [rowOk, isKey]; intros; omega)) (by rfl) | exact Sc.ret (by first | (simp_all [rowOk, isKey]; done) | (simp_all [rowOk, isKey]; intros; omega)) ⟨rfl, by first | rfl | exact ⟨rfl, rfl, rfl⟩⟩ | exact Sc.exit (by first | (simp_all [rowOk, isKey]; done) | (simp_all [rowOk, isKey]; intros; omega)) ⟨rfl, rfl⟩
        · simp only [hT, fn_eq, evR, Nat.reduceAdd, Nat.reduceLT, Nat.reduceLeDiff, reduceIte, Nat.reduceEqDiff, reduceCtorEq, argEnv, eq_self, if_true, if_false]
          repeat' (first | (rw [guardK_cases]; split <;> simp only [hT, evR, Nat.reduceAdd, Nat.reduceLT, Nat.reduceLeDiff, reduceIte, Nat.reduceEqDiff, reduceCtorEq, argEnv, eq_self, if_true, if_false, *]) | (rw [condK_bool]; split <;> simp only [hT, evR, Nat.reduceAdd, Nat.reduceLT, Nat.reduceLeDiff, reduceIte, Nat.reduceEqDiff, reduceCtorEq, argEnv, eq_self, if_true, if_false, *]))
          exact Sc.ret (by simp_all [rowOk, isKey]) ⟨rfl, hT⟩)
    (fun E G hE => by
      simp only [c17_l1, hE, h3, Int.lt_irrefl, fn_eq, evR, Nat.reduceAdd, Nat.reduceLT, Nat.reduceLeDiff, reduceIte, Nat.reduceEqDiff, reduceCtorEq, argEnv, eq_self, if_true, if_false]
      repeat' (first | (rw [guardK_cases]; split <;> simp only [c17_l1, hE, h3, Int.lt_irrefl, evR, Nat.reduceAdd, Nat.reduceLT, Nat.reduceLeDiff, reduceIte, Nat.reduceEqDiff, reduceCtorEq, argEnv, eq_self, if_true, if_false, *]) | (rw [condK_bool]; split <;> simp only [c17_l1, hE, h3, Int.lt_irrefl, evR, Nat.reduceAdd, Nat.reduceLT, Nat.reduceLeDiff, reduceIte, Nat.reduceEqDiff, reduceCtorEq, argEnv, eq_self, if_true, if_false, *]))
      exact .exit (K := [_]) ⟨rfl, by rfl⟩) _ [] (by rfl) (by simp) z hz
  rcases L with ⟨ha, c, T, G, rfl, _, rfl, hT⟩ | ⟨i, r, hx, ha, _, c, T, G, rfl, _, rfl, hT⟩
  · have hrows : rowsOk F rows = true := tell_pos ha
    simp only [hT, h3, fn_eq, evR, Nat.reduceAdd, Nat.reduceLT, Nat.reduceLeDiff, reduceIte, Nat.reduceEqDiff, reduceCtorEq, argEnv, eq_self, if_true, if_false]
    repeat' (first | (rw [guardK_cases]; split <;> simp only [hT, h3, evR, Nat.reduceAdd, Nat.reduceLT, Nat.reduceLeDiff, reduceIte, Nat.reduceEqDiff, reduceCtorEq, argEnv, eq_self, if_true, if_false, *]) | (rw [condK_bool]; split <;> simp only [hT, h3, evR, Nat.reduceAdd, Nat.reduceLT, Nat.reduceLeDiff, reduceIte, Nat.reduceEqDiff, reduceCtorEq, argEnv, eq_self, if_true, if_false, *]))
    all_goals (simp_all [valid]; try omega)
  · have hrows : rowsOk F rows = false := tell_neg fun h => by rw [h i r hx] at ha; cases ha
    simp only [hT, fn_eq, evR, Nat.reduceAdd, Nat.reduceLT, Nat.reduceLeDiff, reduceIte, Nat.reduceEqDiff, reduceCtorEq, argEnv, eq_self, if_true, if_false]
    repeat' (first | (rw [guardK_cases]; split <;> simp only [hT, evR, Nat.reduceAdd, Nat.reduceLT, Nat.reduceLeDiff, reduceIte, Nat.reduceEqDiff, reduceCtorEq, argEnv, eq_self, if_true, if_false, *]) | (rw [condK_bool]; split <;> simp only [hT, evR, Nat.reduceAdd, Nat.reduceLT, Nat.reduceLeDiff, reduceIte, Nat.reduceEqDiff, reduceCtorEq, argEnv, eq_self, if_true, if_false, *]))
    simp_all [valid]
end Go.Proofs.Ytehcdcnghcbimaa.Code
