/- fast: small tables, the same tables. -/
import Derived.Test.YtehcdcnghcbimaaFc
set_option linter.unusedSimpArgs false
set_option linter.unusedVariables false
namespace Go.Proofs.Ytehcdcnghcbimaa.Code
open Go.Proofs.Ytehcdcnghcbimaa.Ev

def small (rows : List Row) : Bool := rows.all (fun r => decide ((r.2.length : Int) ≤ 10)) && decide ((rows.length : Int) ≤ 30)
theorem f10 (F : Int) (rows : List Row) (hl : rows.length < 9223372036854775807) (rv : AV) (H : Heap) (hr : RowsAt H rv rows) :
    cal (evC cprog) false 10 [.agg [.int .i64 F, rv]] H = some (.bool (small rows), H) := by
  rw [cal_of at10]
  have h3 := hr.len
  simp only [c10, fn_eq, evR, Nat.reduceAdd, Nat.reduceLT, Nat.reduceLeDiff, reduceIte, Nat.reduceEqDiff, reduceCtorEq, argEnv, eq_self, if_true, if_false]
  repeat' (first | (rw [guardK_cases]; split <;> simp only [c10, evR, Nat.reduceAdd, Nat.reduceLT, Nat.reduceLeDiff, reduceIte, Nat.reduceEqDiff, reduceCtorEq, argEnv, eq_self, if_true, if_false, *]) | (rw [condK_bool]; split <;> simp only [c10, evR, Nat.reduceAdd, Nat.reduceLT, Nat.reduceLeDiff, reduceIte, Nat.reduceEqDiff, reduceCtorEq, argEnv, eq_self, if_true, if_false, *]))
  generalize hz : itLim _ _ = z
  have L := all_rule rows (fun r => decide ((r.2.length : Int) ≤ 10)) [1, 3] (fun i => [(1, .ptr H.length 0 2 0 0), (3, .int .i64 (i : Int))]) H [⟨0, true, 24, 2, [[.int .i64 F, rv]]⟩] (evCode (evC cprog) itLim c10_l0) (fun c T => c = .exit 0 ∧ keepEnv T [1] = [(1, .ptr H.length 0 2 0 0)]) (fun c T => c = .ret ∧ get T 2 = some (.bool false))
    (fun i r hx E G hE => by
      have hlt : i < rows.length := (List.getElem?_eq_some_iff.1 hx).1
      have hi : (i : Int) < (rows.length : Int) := by omega
      obtain ⟨v, p, hv, hp, hat⟩ := hr.get hx
      have h4 := hv.len
      simp only [List.length_map] at h4
      simp only [c10_l0, hE, h3, h4, hi, hp, hat.faddr, hat.fldx, wrapS hlt hl, fn_eq, evR, Nat.reduceAdd, Nat.reduceLT, Nat.reduceLeDiff, reduceIte, Nat.reduceEqDiff, reduceCtorEq, argEnv, eq_self, if_true, if_false]
      repeat' (first | (rw [guardK_cases]; split <;> simp only [c10_l0, hE, h3, h4, hi, hp, hat.faddr, hat.fldx, wrapS hlt hl, evR, Nat.reduceAdd, Nat.reduceLT, Nat.reduceLeDiff, reduceIte, Nat.reduceEqDiff, reduceCtorEq, argEnv, eq_self, if_true, if_false, *]) | (rw [condK_bool]; split <;> simp only [c10_l0, hE, h3, h4, hi, hp, hat.faddr, hat.fldx, wrapS hlt hl, evR, Nat.reduceAdd, Nat.reduceLT, Nat.reduceLeDiff, reduceIte, Nat.reduceEqDiff, reduceCtorEq, argEnv, eq_self, if_true, if_false, *]))
      all_goals first | exact Sc.next (by simp_all) (by rfl) | exact Sc.ret (by simp_all) ⟨rfl, rfl⟩)
    (fun E G hE => by
      simp only [c10_l0, hE, h3, Int.lt_irrefl, fn_eq, evR, Nat.reduceAdd, Nat.reduceLT, Nat.reduceLeDiff, reduceIte, Nat.reduceEqDiff, reduceCtorEq, argEnv, eq_self, if_true, if_false]
      repeat' (first | (rw [guardK_cases]; split <;> simp only [c10_l0, hE, h3, Int.lt_irrefl, evR, Nat.reduceAdd, Nat.reduceLT, Nat.reduceLeDiff, reduceIte, Nat.reduceEqDiff, reduceCtorEq, argEnv, eq_self, if_true, if_false, *]) | (rw [condK_bool]; split <;> simp only [c10_l0, hE, h3, Int.lt_irrefl, evR, Nat.reduceAdd, Nat.reduceLT, Nat.reduceLeDiff, reduceIte, Nat.reduceEqDiff, reduceCtorEq, argEnv, eq_self, if_true, if_false, *]))
      exact .exit (K := [_]) ⟨rfl, by rfl⟩) _ [] (by rfl) (by simp) z hz
  rcases L with ⟨ha, c, T, G, rfl, _, rfl, hT⟩ | ⟨ha, c, T, G, rfl, _, rfl, hT⟩
  · simp only [h3, hT, fn_eq, evR, Nat.reduceAdd, Nat.reduceLT, Nat.reduceLeDiff, reduceIte, Nat.reduceEqDiff, reduceCtorEq, argEnv, eq_self, if_true, if_false]
    repeat' (first | (rw [guardK_cases]; split <;> simp only [h3, hT, evR, Nat.reduceAdd, Nat.reduceLT, Nat.reduceLeDiff, reduceIte, Nat.reduceEqDiff, reduceCtorEq, argEnv, eq_self, if_true, if_false, *]) | (rw [condK_bool]; split <;> simp only [h3, hT, evR, Nat.reduceAdd, Nat.reduceLT, Nat.reduceLeDiff, reduceIte, Nat.reduceEqDiff, reduceCtorEq, argEnv, eq_self, if_true, if_false, *]))
    simp only [small, ha, evR, Nat.reduceAdd, Nat.reduceLT, Nat.reduceLeDiff, reduceIte, Nat.reduceEqDiff, reduceCtorEq, argEnv, eq_self, if_true, if_false]
  · simp only [hT, fn_eq, evR, Nat.reduceAdd, Nat.reduceLT, Nat.reduceLeDiff, reduceIte, Nat.reduceEqDiff, reduceCtorEq, argEnv, eq_self, if_true, if_false]
    repeat' (first | (rw [guardK_cases]; split <;> simp only [hT, evR, Nat.reduceAdd, Nat.reduceLT, Nat.reduceLeDiff, reduceIte, Nat.reduceEqDiff, reduceCtorEq, argEnv, eq_self, if_true, if_false, *]) | (rw [condK_bool]; split <;> simp only [hT, evR, Nat.reduceAdd, Nat.reduceLT, Nat.reduceLeDiff, reduceIte, Nat.reduceEqDiff, reduceCtorEq, argEnv, eq_self, if_true, if_false, *]))
    simp only [small, ha, evR, Nat.reduceAdd, Nat.reduceLT, Nat.reduceLeDiff, reduceIte, Nat.reduceEqDiff, reduceCtorEq, argEnv, eq_self, if_true, if_false]

section
variable (F F' : Int) (rows rows' : List Row) (rv rv' : AV) (H : Heap)
def k20 : Heap := [⟨0, true, 24, 2, [[.int .i64 F, rv]]⟩, ⟨0, true, 24, 2, [[.int .i64 F', rv']]⟩]
def e20 (i : Nat) : Env := [(2, .ptr H.length 0 2 0 0), (3, .ptr (H.length + 1) 0 2 0 0), (5, .int .i64 (i : Int))]
variable {F F' rows rows' rv rv' H}
theorem loop20 (hr : RowsAt H rv rows) (hr' : RowsAt H rv' rows') {i : Nat} {r r' : Row} (hx : rows[i]? = some r) (hx' : rows'[i]? = some r') (hl : r.2.length < 9223372036854775807) (he : r.2.length = r'.2.length)
    (st : St) (G : Heap) (hE : keepEnv st.1 [2, 3, 5, 6] = e20 H i ++ [(6, .int .i64 0)]) (hH : st.2 = H ++ (k20 F F' rv rv' ++ G)) (z : Option (CX × St)) (hz : itLim (evCode (evC cprog) itLim c20_l0) st = z) :
    (r.2 = r'.2 ∧ Lv H (k20 F F' rv rv') (fun c T => c = .exit 2 ∧ keepEnv T [2, 3, 5] = e20 H i) z) ∨ (r.2 ≠ r'.2 ∧ Lv H (k20 F F' rv rv') (fun c T => c = .ret ∧ get T 4 = some (.bool false)) z) := by
  obtain ⟨v, p, hv, hp, hat⟩ := hr.get hx
  obtain ⟨v', p', hv', hp', hat'⟩ := hr'.get hx'
  have h4 := hv.len
  have h4' := hv'.len
  simp only [List.length_map] at h4 h4'
  have L := scan_rule r.2 (fun k n => decide (r'.2[k]? = some n)) [2, 3, 5, 6] (fun k => e20 H i ++ [(6, .int .i64 (k : Int))]) H (k20 F F' rv rv') (evCode (evC cprog) itLim c20_l0) (fun c T => c = .exit 2 ∧ keepEnv T [2, 3, 5] = e20 H i) (fun _ _ c T => c = .ret ∧ get T 4 = some (.bool false))
    (fun k n hk E G hE => by
      have hlt : k < r.2.length := (List.getElem?_eq_some_iff.1 hk).1
      have hi : (k : Int) < (r.2.length : Int) := by omega
      obtain ⟨n', hn'⟩ : ∃ n', r'.2[k]? = some n' := ⟨_, List.getElem?_eq_getElem (by omega)⟩
      obtain ⟨_, q, hq, hqt⟩ := hv.get k [.int .i64 n] (by rw [List.getElem?_map, hk]; rfl)
      obtain ⟨_, q', hq', hqt'⟩ := hv'.get k [.int .i64 n'] (by rw [List.getElem?_map, hn']; rfl)
      simp only [e20, List.cons_append, List.nil_append] at hE
      simp only [k20]
      simp only [c20_l0, hE, h4, h4', hi, hp, hp', hat.faddr, hat.fldx, hat'.faddr, hat'.fldx, hq, hq', hqt.onex, hqt'.onex, wrapS hlt hl, fn_eq, evR, Nat.reduceAdd, Nat.reduceLT, Nat.reduceLeDiff, reduceIte, Nat.reduceEqDiff, reduceCtorEq, argEnv, eq_self, if_true, if_false]
      repeat' (first | (rw [guardK_cases]; split <;> simp only [c20_l0, hE, h4, h4', hi, hp, hp', hat.faddr, hat.fldx, hat'.faddr, hat'.fldx, hq, hq', hqt.onex, hqt'.onex, wrapS hlt hl, evR, Nat.reduceAdd, Nat.reduceLT, Nat.reduceLeDiff, reduceIte, Nat.reduceEqDiff, reduceCtorEq, argEnv, eq_self, if_true, if_false, *]) | (rw [condK_bool]; split <;> simp only [c20_l0, hE, h4, h4', hi, hp, hp', hat.faddr, hat.fldx, hat'.faddr, hat'.fldx, hq, hq', hqt.onex, hqt'.onex, wrapS hlt hl, evR, Nat.reduceAdd, Nat.reduceLT, Nat.reduceLeDiff, reduceIte, Nat.reduceEqDiff, reduceCtorEq, argEnv, eq_self, if_true, if_false, *]))
      all_goals first | exact Sc.next (by simp_all) (by rfl) | exact Sc.ret (by simp_all; omega) ⟨rfl, rfl⟩)
    (fun E G hE => by
      simp only [e20, List.cons_append, List.nil_append] at hE
      simp only [k20]
      simp only [c20_l0, hE, h4, h4', hp, hat.faddr, hat.fldx, Int.lt_irrefl, fn_eq, evR, Nat.reduceAdd, Nat.reduceLT, Nat.reduceLeDiff, reduceIte, Nat.reduceEqDiff, reduceCtorEq, argEnv, eq_self, if_true, if_false]
      repeat' (first | (rw [guardK_cases]; split <;> simp only [c20_l0, hE, h4, h4', hp, hat.faddr, hat.fldx, Int.lt_irrefl, evR, Nat.reduceAdd, Nat.reduceLT, Nat.reduceLeDiff, reduceIte, Nat.reduceEqDiff, reduceCtorEq, argEnv, eq_self, if_true, if_false, *]) | (rw [condK_bool]; split <;> simp only [c20_l0, hE, h4, h4', hp, hat.faddr, hat.fldx, Int.lt_irrefl, evR, Nat.reduceAdd, Nat.reduceLT, Nat.reduceLeDiff, reduceIte, Nat.reduceEqDiff, reduceCtorEq, argEnv, eq_self, if_true, if_false, *]))
      exact .exit ⟨rfl, by rfl⟩) st G hE hH z hz
  rcases L with ⟨ha, hL⟩ | ⟨k, n, hk, ha, _, hL⟩
  · refine .inl ⟨List.ext_getElem? fun k => ?_, hL⟩
    by_cases hk : k < r.2.length
    · obtain ⟨n, hn⟩ : ∃ n, r.2[k]? = some n := ⟨_, List.getElem?_eq_getElem hk⟩
      have := ha k n hn
      simp only [decide_eq_true_eq] at this
      rw [hn, this]
    · rw [List.getElem?_eq_none (by omega), List.getElem?_eq_none (by omega)]
  · refine .inr ⟨fun h => ?_, hL⟩
    rw [h] at hk
    simp [hk] at ha
end
theorem f20 (F F' : Int) (rows rows' : List Row) (rv rv' : AV) (H : Heap) (hr : RowsAt H rv rows) (hr' : RowsAt H rv' rows') (hl : rows.length < 9223372036854775807) (hvl : ∀ r ∈ rows, r.2.length < 9223372036854775807) :
    cal (evC cprog) false 20 [.agg [.int .i64 F, rv], .agg [.int .i64 F', rv']] H = some (.bool (tell (F = F' ∧ rows = rows')), H) := by
  rw [cal_of at20]
  have h3 := hr.len
  have h3' := hr'.len
  simp only [c20, h3, h3', fn_eq, evR, Nat.reduceAdd, Nat.reduceLT, Nat.reduceLeDiff, reduceIte, Nat.reduceEqDiff, reduceCtorEq, argEnv, eq_self, if_true, if_false]
  repeat' (first | (rw [guardK_cases]; split <;> simp only [c20, h3, h3', evR, Nat.reduceAdd, Nat.reduceLT, Nat.reduceLeDiff, reduceIte, Nat.reduceEqDiff, reduceCtorEq, argEnv, eq_self, if_true, if_false, *]) | (rw [condK_bool]; split <;> simp only [c20, h3, h3', evR, Nat.reduceAdd, Nat.reduceLT, Nat.reduceLeDiff, reduceIte, Nat.reduceEqDiff, reduceCtorEq, argEnv, eq_self, if_true, if_false, *]))
  · rename_i h
    rw [tell_neg (fun h' => by simp_all)]
  · rename_i h0 h
    rw [tell_neg (fun h' => by simp_all)]
  rename_i h0 h1
  have hlen : rows.length = rows'.length := by simp at h1; omega
  have hF : F = F' := by simpa using h0
  subst hF
  generalize hz : itLim _ _ = z
  have L := scan_rule rows (fun i r => tell (rows'[i]? = some r)) [2, 3, 5] (fun i => e20 H i) H (k20 F F rv rv') (evCode (evC cprog) itLim c20_l1) (fun c T => c = .exit 0) (fun _ _ c T => c = .ret ∧ get T 4 = some (.bool false))
    (fun i r hx E G hE => by
      have hlt : i < rows.length := (List.getElem?_eq_some_iff.1 hx).1
      have hi : (i : Int) < (rows.length : Int) := by omega
      obtain ⟨r', hx'⟩ : ∃ r', rows'[i]? = some r' := ⟨_, List.getElem?_eq_getElem (by omega)⟩
      obtain ⟨v, p, hv, hp, hat⟩ := hr.get hx
      obtain ⟨v', p', hv', hp', hat'⟩ := hr'.get hx'
      have h4 := hv.len
      have h4' := hv'.len
      simp only [List.length_map] at h4 h4'
      have hin := loop20 (F := F) (F' := F) hr hr' hx hx' (hvl r (List.mem_of_getElem? hx))
      have hok : tell (rows'[i]? = some r) = tell (r'.1 = r.1 ∧ r'.2 = r.2) := by
        rw [hx']
        congr 1
        rw [Option.some.injEq, Prod.ext_iff]
      rw [hok]
      simp only [k20] at hin ⊢
      simp only [e20] at hE
      simp only [c20_l1, hE, h3, h3', h4, h4', hi, hp, hp', hat.faddr, hat.fldx, hat'.faddr, hat'.fldx, wrapS hlt hl, fn_eq, evR, Nat.reduceAdd, Nat.reduceLT, Nat.reduceLeDiff, reduceIte, Nat.reduceEqDiff, reduceCtorEq, argEnv, eq_self, if_true, if_false]
      repeat' (first | (rw [guardK_cases]; split <;> simp only [c20_l1, hE, h3, h3', h4, h4', hi, hp, hp', hat.faddr, hat.fldx, hat'.faddr, hat'.fldx, wrapS hlt hl, evR, Nat.reduceAdd, Nat.reduceLT, Nat.reduceLeDiff, reduceIte, Nat.reduceEqDiff, reduceCtorEq, argEnv, eq_self, if_true, if_false, *]) | (rw [condK_bool]; split <;> simp only [c20_l1, hE, h3, h3', h4, h4', hi, hp, hp', hat.faddr, hat.fldx, hat'.faddr, hat'.fldx, wrapS hlt hl, evR, Nat.reduceAdd, Nat.reduceLT, Nat.reduceLeDiff, reduceIte, Nat.reduceEqDiff, reduceCtorEq, argEnv, eq_self, if_true, if_false, *]))
      · rename_i g0
        exact Sc.ret (tell_neg fun h' => by rw [h'.1] at g0; simp at g0) ⟨rfl, rfl⟩
      · rename_i g0 g1
        exact Sc.ret (tell_neg fun h' => by rw [h'.2] at g1; simp at g1) ⟨rfl, rfl⟩
      · rename_i g0 g1
        have g2 : r.2.length = r'.2.length := by simp at g1; omega
        have g3 : r.1 = r'.1 := by simpa using g0
        generalize hz : itLim _ _ = z
        rcases hin g2 _ G (by rfl) rfl z hz with ⟨ha, c, T, G', rfl, _, rfl, hT⟩ | ⟨ha, c, T, G', rfl, _, rfl, hT⟩
        · simp only [e20] at hT
          simp only [hT, wrapS hlt hl, fn_eq, evR, Nat.reduceAdd, Nat.reduceLT, Nat.reduceLeDiff, reduceIte, Nat.reduceEqDiff, reduceCtorEq, argEnv, eq_self, if_true, if_false]
          repeat' (first | (rw [guardK_cases]; split <;> simp only [hT, wrapS hlt hl, evR, Nat.reduceAdd, Nat.reduceLT, Nat.reduceLeDiff, reduceIte, Nat.reduceEqDiff, reduceCtorEq, argEnv, eq_self, if_true, if_false, *]) | (rw [condK_bool]; split <;> simp only [hT, wrapS hlt hl, evR, Nat.reduceAdd, Nat.reduceLT, Nat.reduceLeDiff, reduceIte, Nat.reduceEqDiff, reduceCtorEq, argEnv, eq_self, if_true, if_false, *]))
          exact Sc.next (tell_pos ⟨g3.symm, ha.symm⟩) (by rfl)
        · simp only [hT, fn_eq, evR, Nat.reduceAdd, Nat.reduceLT, Nat.reduceLeDiff, reduceIte, Nat.reduceEqDiff, reduceCtorEq, argEnv, eq_self, if_true, if_false]
          repeat' (first | (rw [guardK_cases]; split <;> simp only [hT, evR, Nat.reduceAdd, Nat.reduceLT, Nat.reduceLeDiff, reduceIte, Nat.reduceEqDiff, reduceCtorEq, argEnv, eq_self, if_true, if_false, *]) | (rw [condK_bool]; split <;> simp only [hT, evR, Nat.reduceAdd, Nat.reduceLT, Nat.reduceLeDiff, reduceIte, Nat.reduceEqDiff, reduceCtorEq, argEnv, eq_self, if_true, if_false, *]))
          exact Sc.ret (tell_neg fun h => ha h.2.symm) ⟨rfl, hT⟩)
    (fun E G hE => by
      simp only [e20] at hE
      simp only [k20]
      simp only [c20_l1, hE, h3, Int.lt_irrefl, fn_eq, evR, Nat.reduceAdd, Nat.reduceLT, Nat.reduceLeDiff, reduceIte, Nat.reduceEqDiff, reduceCtorEq, argEnv, eq_self, if_true, if_false]
      repeat' (first | (rw [guardK_cases]; split <;> simp only [c20_l1, hE, h3, Int.lt_irrefl, evR, Nat.reduceAdd, Nat.reduceLT, Nat.reduceLeDiff, reduceIte, Nat.reduceEqDiff, reduceCtorEq, argEnv, eq_self, if_true, if_false, *]) | (rw [condK_bool]; split <;> simp only [c20_l1, hE, h3, Int.lt_irrefl, evR, Nat.reduceAdd, Nat.reduceLT, Nat.reduceLeDiff, reduceIte, Nat.reduceEqDiff, reduceCtorEq, argEnv, eq_self, if_true, if_false, *]))
      exact .exit rfl) _ [] (by rfl) (by simp [k20]) z hz
  rcases L with ⟨ha, c, T, G, rfl, _, rfl⟩ | ⟨i, r, hx, ha, _, c, T, G, rfl, _, rfl, hT⟩
  · simp only [h3, fn_eq, evR, Nat.reduceAdd, Nat.reduceLT, Nat.reduceLeDiff, reduceIte, Nat.reduceEqDiff, reduceCtorEq, argEnv, eq_self, if_true, if_false]
    repeat' (first | (rw [guardK_cases]; split <;> simp only [h3, evR, Nat.reduceAdd, Nat.reduceLT, Nat.reduceLeDiff, reduceIte, Nat.reduceEqDiff, reduceCtorEq, argEnv, eq_self, if_true, if_false, *]) | (rw [condK_bool]; split <;> simp only [h3, evR, Nat.reduceAdd, Nat.reduceLT, Nat.reduceLeDiff, reduceIte, Nat.reduceEqDiff, reduceCtorEq, argEnv, eq_self, if_true, if_false, *]))
    rw [tell_pos (List.ext_getElem? fun i => ?_)]
    by_cases hi : i < rows.length
    · obtain ⟨r, hr⟩ : ∃ r, rows[i]? = some r := ⟨_, List.getElem?_eq_getElem hi⟩
      rw [hr, tell_true.1 (ha i r hr)]
    · rw [List.getElem?_eq_none (by omega), List.getElem?_eq_none (by omega)]
  · simp only [hT, fn_eq, evR, Nat.reduceAdd, Nat.reduceLT, Nat.reduceLeDiff, reduceIte, Nat.reduceEqDiff, reduceCtorEq, argEnv, eq_self, if_true, if_false]
    repeat' (first | (rw [guardK_cases]; split <;> simp only [hT, evR, Nat.reduceAdd, Nat.reduceLT, Nat.reduceLeDiff, reduceIte, Nat.reduceEqDiff, reduceCtorEq, argEnv, eq_self, if_true, if_false, *]) | (rw [condK_bool]; split <;> simp only [hT, evR, Nat.reduceAdd, Nat.reduceLT, Nat.reduceLeDiff, reduceIte, Nat.reduceEqDiff, reduceCtorEq, argEnv, eq_self, if_true, if_false, *]))
    rw [tell_neg fun h => ?_]
    rw [tell_false, ← h] at ha
    exact ha hx
end Go.Proofs.Ytehcdcnghcbimaa.Code
