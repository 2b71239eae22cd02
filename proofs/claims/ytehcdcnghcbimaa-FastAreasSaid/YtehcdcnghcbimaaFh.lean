/- fast: a copy of a table. -/
import Derived.Test.YtehcdcnghcbimaaFg
import Derived.Test.YtehcdcnghcbimaaEvW
set_option linter.unusedSimpArgs false
set_option linter.unusedVariables false
namespace Go.Proofs.Ytehcdcnghcbimaa.Code
open Go.Proofs.Ytehcdcnghcbimaa.Ev

def bRow (r : Row) : Blk := ⟨0, true, 76, 2, [rRow r]⟩
def bVals (l : List Int) : Blk := ⟨0, true, 3, 1, l.map fun n => [.int .i64 n]⟩
def tl58 (rows : List Row) (i : Nat) : Heap := (rows.take i).flatMap fun r => [bRow r, bVals r.2]
def els58 (base : Nat) (rows : List Row) (i : Nat) : List (List AV) := rows.mapIdx fun j r => if j < i then [.str r.1, .ref (base + (2 * j + 4)) 0 1 0 r.2.length] else rRow r
def hp58 (F : Int) (rows : List Row) (H : Heap) (i : Nat) : Heap :=
  H ++ (⟨0, true, 24, 2, [[.int .i64 F, .ref (H.length + 2) 0 2 0 rows.length]]⟩ :: ⟨0, true, 24, 2, [[.int .i64 0, .nils]]⟩ :: ⟨0, true, 76, 2, els58 H.length rows i⟩ :: tl58 rows i)
theorem tl58_len (rows : List Row) : ∀ i, i ≤ rows.length → (tl58 rows i).length = 2 * i := by
  intro i
  induction i with
  | zero => intro _; simp [tl58]
  | succ i ih =>
    intro h
    have := ih (by omega)
    unfold tl58 at *
    rw [List.take_add_one, List.flatMap_append, List.length_append, this]
    have : rows[i]? = some rows[i] := List.getElem?_eq_getElem (by omega)
    rw [this]
    simp
    omega
theorem tl58_succ (rows : List Row) {i : Nat} {r : Row} (hr : rows[i]? = some r) : tl58 rows (i + 1) = tl58 rows i ++ [bRow r, bVals r.2] := by
  unfold tl58
  rw [List.take_add_one, List.flatMap_append, hr]
  simp
theorem els58_at (base : Nat) (rows : List Row) {i j : Nat} {r : Row} (hr : rows[j]? = some r) : (els58 base rows i)[j]? = some (if j < i then [.str r.1, .ref (base + (2 * j + 4)) 0 1 0 r.2.length] else rRow r) := by
  unfold els58
  rw [List.getElem?_mapIdx, hr]; rfl
theorem els58_succ (base : Nat) (rows : List Row) {i : Nat} {r : Row} (hr : rows[i]? = some r) : (els58 base rows i).set i [.str r.1, .ref (base + (2 * i + 4)) 0 1 0 r.2.length] = els58 base rows (i + 1) := by
  have hi := (List.getElem?_eq_some_iff.1 hr).1
  apply List.ext_getElem?
  intro j
  by_cases hj : j < rows.length
  · obtain ⟨r', hr'⟩ : ∃ r', rows[j]? = some r' := ⟨_, List.getElem?_eq_getElem hj⟩
    rw [els58_at base rows hr']
    by_cases hij : i = j
    · subst hij
      rw [hr] at hr'; cases hr'
      rw [List.getElem?_set_self (by simpa [els58] using hi), if_pos (by omega)]
    · rw [List.getElem?_set_ne hij, els58_at base rows hr']
      by_cases h : j < i
      · rw [if_pos h, if_pos (by omega)]
      · rw [if_neg h, if_neg (by omega)]
  · rw [List.getElem?_eq_none (by simp [els58]; omega), List.getElem?_eq_none (by simp [els58]; omega)]
theorem els58_zero (base : Nat) (rows : List Row) : els58 base rows 0 = rows.map rRow := by
  apply List.ext_getElem?
  intro j
  by_cases hj : j < rows.length
  · obtain ⟨r', hr'⟩ : ∃ r', rows[j]? = some r' := ⟨_, List.getElem?_eq_getElem hj⟩
    rw [els58_at base rows hr', if_neg (by omega), List.getElem?_map, hr']; rfl
  · rw [List.getElem?_eq_none (by simp [els58]; omega), List.getElem?_eq_none (by simp; omega)]
theorem f76 (l : List Int) (hne : l ≠ []) (hl : l.length ≤ 1000000) (H : Heap) : cal (evC cprog) false 76 [eInts l] H = some (.ref H.length 0 1 0 l.length, H ++ [bVals l]) := by
  cases l with
  | nil => exact absurd rfl hne
  | cons n l =>
    have := clone_lst (cprog := cprog) (f := 76) (ty := 3) (sz := 1) (bytes := 8) at76 [.int .i64 n] (l.map fun n => [.int .i64 n]) H rfl (by simp [reach] at *; omega)
    simpa [eInts, bVals] using this
theorem f75 (l : List Row) (hne : l ≠ []) (hl : l.length ≤ 1000000) (H : Heap) : cal (evC cprog) false 75 [.lst (l.map rRow)] H = some (.ref H.length 0 2 0 l.length, H ++ [⟨0, true, 76, 2, l.map rRow⟩]) := by
  cases l with
  | nil => exact absurd rfl hne
  | cons n l =>
    have := clone_lst (cprog := cprog) (f := 75) (ty := 76) (sz := 2) (bytes := 40) at75 (rRow n) (l.map rRow) H rfl (by simp [reach] at *; omega)
    simpa using this
theorem f58_loop (F : Int) (rows : List Row) (hl : rows.length ≤ 1000000) (hv : ∀ r ∈ rows, r.2 ≠ [] ∧ r.2.length ≤ 1000000) (H : Heap) (st : St) (z : Option (CX × St))
    (hE : keepEnv st.1 [1, 2, 10, 11, 12] = [(1, .ptr H.length 0 2 0 0), (2, .ptr (H.length + 1) 0 2 0 0), (10, .ref (H.length + 2) 0 2 0 rows.length), (11, .int .i64 (rows.length : Int)), (12, .int .i64 0)])
    (hH : st.2 = hp58 F rows H 0) (hz : itLim (evCode (evC cprog) itLim c58_l0) st = z) :
    ∃ T, z = some (.exit 0, T, hp58 F rows H rows.length) ∧ keepEnv T [1, 2] = [(1, .ptr H.length 0 2 0 0), (2, .ptr (H.length + 1) 0 2 0 0)] := by
  have L := loop_rule (σ := Nat) (m := [1, 2, 10, 11, 12]) (env := fun i => [(1, .ptr H.length 0 2 0 0), (2, .ptr (H.length + 1) 0 2 0 0), (10, .ref (H.length + 2) 0 2 0 rows.length), (11, .int .i64 (rows.length : Int)), (12, .int .i64 (i : Int))])
    (hp := hp58 F rows H) (P := fun _ r => ∃ T, r = (.exit 0, T, hp58 F rows H rows.length) ∧ keepEnv T [1, 2] = [(1, .ptr H.length 0 2 0 0), (2, .ptr (H.length + 1) 0 2 0 0)])
    (mu := fun i => rows.length - i) (I := fun i => i ≤ rows.length) (evCode (evC cprog) itLim c58_l0) ?_ 0 st (Nat.zero_le _) hE hH z hz
  · obtain ⟨r, rfl, T, rfl, hT⟩ := L
    exact ⟨T, rfl, hT⟩
  · intro i hi E hE
    by_cases hlt : i < rows.length
    · obtain ⟨r, hr⟩ : ∃ r, rows[i]? = some r := ⟨_, List.getElem?_eq_getElem hlt⟩
      have hm := List.mem_of_getElem? hr
      have hi1 : (i : Int) < (rows.length : Int) := by omega
      have hel := els58_at H.length rows (i := i) hr
      rw [if_neg (by omega)] at hel
      have h76 := f76 r.2 (hv r hm).1 (hv r hm).2
      have htl := tl58_len rows i hi
      have hs := els58_succ H.length rows hr
      rw [show hp58 F rows H i = H ++ (⟨0, true, 24, 2, [[.int .i64 F, .ref (H.length + 2) 0 2 0 rows.length]]⟩ :: ⟨0, true, 24, 2, [[.int .i64 0, .nils]]⟩ :: ⟨0, true, 76, 2, els58 H.length rows i⟩ :: tl58 rows i) from rfl]
      generalize hTl : tl58 rows i = Tl at *
      simp only [rRow, bVals] at hel h76
      simp only [c58_l0, hE, hi1, hlt, hel, h76, evW, wrapS hlt (by omega), fn_eq, evR, Nat.reduceAdd, Nat.reduceLT, Nat.reduceLeDiff, reduceIte, Nat.reduceEqDiff, reduceCtorEq, argEnv, eq_self, if_true, if_false]
      repeat' (first | (rw [guardK_cases]; split <;> simp only [c58_l0, hE, hi1, hlt, hel, h76, evW, wrapS hlt (by omega), evR, Nat.reduceAdd, Nat.reduceLT, Nat.reduceLeDiff, reduceIte, Nat.reduceEqDiff, reduceCtorEq, argEnv, eq_self, if_true, if_false, *]) | (rw [condK_bool]; split <;> simp only [c58_l0, hE, hi1, hlt, hel, h76, evW, wrapS hlt (by omega), evR, Nat.reduceAdd, Nat.reduceLT, Nat.reduceLeDiff, reduceIte, Nat.reduceEqDiff, reduceCtorEq, argEnv, eq_self, if_true, if_false, *]) | (rw [guardD_cases]; split <;> simp only [c58_l0, hE, hi1, hlt, hel, h76, evW, wrapS hlt (by omega), evR, Nat.reduceAdd, Nat.reduceLT, Nat.reduceLeDiff, reduceIte, Nat.reduceEqDiff, reduceCtorEq, argEnv, eq_self, if_true, if_false, *]))
      exact q_next (i + 1) (by rfl) (by simp only [hp58, tl58_succ rows hr, hTl, ← hs, htl, bRow, bVals, rRow]) (by omega) (by omega) (fun r h => h)
    · have : i = rows.length := by omega
      subst this
      simp only [c58_l0, hE, Int.lt_irrefl, fn_eq, evR, Nat.reduceAdd, Nat.reduceLT, Nat.reduceLeDiff, reduceIte, Nat.reduceEqDiff, reduceCtorEq, argEnv, eq_self, if_true, if_false]
      repeat' (first | (rw [guardK_cases]; split <;> simp only [c58_l0, hE, Int.lt_irrefl, evR, Nat.reduceAdd, Nat.reduceLT, Nat.reduceLeDiff, reduceIte, Nat.reduceEqDiff, reduceCtorEq, argEnv, eq_self, if_true, if_false, *]) | (rw [condK_bool]; split <;> simp only [c58_l0, hE, Int.lt_irrefl, evR, Nat.reduceAdd, Nat.reduceLT, Nat.reduceLeDiff, reduceIte, Nat.reduceEqDiff, reduceCtorEq, argEnv, eq_self, if_true, if_false, *]))
      exact q_exit ⟨_, rfl, by rfl⟩
theorem tl58_at (rows : List Row) {j : Nat} {r : Row} (hr : rows[j]? = some r) : ∀ i, i ≤ rows.length → j < i → (tl58 rows i)[2 * j + 1]? = some (bVals r.2) := by
  intro i
  induction i with
  | zero => intro _ h; omega
  | succ i ih =>
    intro hi hj
    obtain ⟨r', hr'⟩ : ∃ r', rows[i]? = some r' := ⟨_, List.getElem?_eq_getElem (by omega)⟩
    rw [tl58_succ rows hr']
    have hl := tl58_len rows i (by omega)
    by_cases h : j < i
    · rw [List.getElem?_append_left (by omega)]
      exact ih (by omega) h
    · have : j = i := by omega
      subst this
      rw [hr] at hr'; cases hr'
      rw [List.getElem?_append_right (by omega), hl]
      have : 2 * j + 1 - 2 * j = 1 := by omega
      rw [this]; rfl
theorem own58 (F : Int) (rows : List Row) (hne : rows ≠ []) (H : Heap) (B1 B2 : Blk) :
    Own H (H.length + (2 * rows.length + 3)) (.ref (H.length + 2) 0 2 0 rows.length) rows (H ++ (B1 :: B2 :: ⟨0, true, 76, 2, els58 H.length rows rows.length⟩ :: tl58 rows rows.length)) := by
  have htl := tl58_len rows rows.length (Nat.le_refl _)
  have hvb : ∀ (i : Nat) (w : Nat × Nat), ((List.range rows.length).map fun j => (H.length + (2 * j + 4), 0))[i]? = some w → w = (H.length + (2 * i + 4), 0) := fun i w hw => by
    rw [List.getElem?_map] at hw
    cases h : (List.range rows.length)[i]? with
    | none => simp [h] at hw
    | some j =>
      have := (List.getElem?_eq_some_iff.1 h).2
      simp at this
      subst this
      simp [h] at hw
      exact hw.symm
  refine ⟨by simp, ⟨by omega, by simp [htl]⟩, .inr ⟨_, _, (List.range rows.length).map fun j => (H.length + (2 * j + 4), 0), rfl, by simp, ⟨by omega, by omega, ⟨0, true, 76, 2, els58 H.length rows rows.length⟩, by simp only [curBlk_eq, at_app, List.getElem?_cons_succ, List.getElem?_cons_zero, blkK_some, and_self, if_true], fun i r w hr hw => ?_⟩, fun i r w hr hw => ?_, fun i j w u hw hu hij => ?_⟩⟩
  · rw [hvb i w hw]
    rw [els58_at H.length rows hr, if_pos (List.getElem?_eq_some_iff.1 hr).1]
  · rw [hvb i w hw]
    have hi := (List.getElem?_eq_some_iff.1 hr).1
    refine ⟨by simp only; omega, by simp only; omega, by simp only; omega, bVals r.2, ?_, fun j n hj => by simp [bVals, hj]⟩
    simp only [curBlk_eq, at_app]
    rw [show 2 * i + 4 = 2 * i + 1 + 1 + 1 + 1 from rfl]
    simp only [List.getElem?_cons_succ]
    rw [tl58_at rows hr rows.length (Nat.le_refl _) hi]
    rfl
  · rw [hvb i w hw, hvb j u hu]
    simp only
    omega
theorem f58 (F : Int) (rows : List Row) (hne : rows ≠ []) (hl : rows.length ≤ 1000000) (hv : ∀ r ∈ rows, r.2 ≠ [] ∧ r.2.length ≤ 1000000) (H : Heap) :
    ∃ G N, cal (evC cprog) false 58 [.agg [.int .i64 F, .lst (rows.map rRow)]] H = some (.agg [.int .i64 F, .ref (H.length + 2) 0 2 0 rows.length], H ++ G) ∧ Own H N (.ref (H.length + 2) 0 2 0 rows.length) rows (H ++ G) := by
  rw [cal_of at58]
  have h75 := f75 rows hne hl
  simp only [c58, h75, fn_eq, evR, Nat.reduceAdd, Nat.reduceLT, Nat.reduceLeDiff, reduceIte, Nat.reduceEqDiff, reduceCtorEq, argEnv, eq_self, if_true, if_false]
  repeat' (first | (rw [guardK_cases]; split <;> simp only [c58, h75, evR, Nat.reduceAdd, Nat.reduceLT, Nat.reduceLeDiff, reduceIte, Nat.reduceEqDiff, reduceCtorEq, argEnv, eq_self, if_true, if_false, *]) | (rw [condK_bool]; split <;> simp only [c58, h75, evR, Nat.reduceAdd, Nat.reduceLT, Nat.reduceLeDiff, reduceIte, Nat.reduceEqDiff, reduceCtorEq, argEnv, eq_self, if_true, if_false, *]))
  generalize hz : itLim _ _ = z
  obtain ⟨T, rfl, hT⟩ := f58_loop F rows hl hv H _ z (by rfl) (by simp only [hp58, els58_zero, tl58, List.take_zero, List.flatMap_nil, evR, Nat.reduceAdd, Nat.reduceLT, Nat.reduceLeDiff, reduceIte, Nat.reduceEqDiff, reduceCtorEq, argEnv, eq_self, if_true, if_false]) hz
  simp only [hp58]
  simp only [hT, fn_eq, evR, Nat.reduceAdd, Nat.reduceLT, Nat.reduceLeDiff, reduceIte, Nat.reduceEqDiff, reduceCtorEq, argEnv, eq_self, if_true, if_false]
  repeat' (first | (rw [guardK_cases]; split <;> simp only [hT, evR, Nat.reduceAdd, Nat.reduceLT, Nat.reduceLeDiff, reduceIte, Nat.reduceEqDiff, reduceCtorEq, argEnv, eq_self, if_true, if_false, *]) | (rw [condK_bool]; split <;> simp only [hT, evR, Nat.reduceAdd, Nat.reduceLT, Nat.reduceLeDiff, reduceIte, Nat.reduceEqDiff, reduceCtorEq, argEnv, eq_self, if_true, if_false, *]))
  exact ⟨_, _, rfl, own58 F rows hne H _ _⟩
theorem f58_nil (F : Int) (H : Heap) : ∃ G N, cal (evC cprog) false 58 [.agg [.int .i64 F, .lst []]] H = some (.agg [.int .i64 F, .nil0], H ++ G) ∧ Own H N .nil0 [] (H ++ G) := by
  rw [cal_of at58]
  have h75 := clone_nil (cprog := cprog) (f := 75) (ty := 76) (sz := 2) (bytes := 40) at75
  simp only [c58, h75, fn_eq, evR, Nat.reduceAdd, Nat.reduceLT, Nat.reduceLeDiff, reduceIte, Nat.reduceEqDiff, reduceCtorEq, argEnv, eq_self, if_true, if_false]
  repeat' (first | (rw [guardK_cases]; split <;> simp only [c58, h75, evR, Nat.reduceAdd, Nat.reduceLT, Nat.reduceLeDiff, reduceIte, Nat.reduceEqDiff, reduceCtorEq, argEnv, eq_self, if_true, if_false, *]) | (rw [condK_bool]; split <;> simp only [c58, h75, evR, Nat.reduceAdd, Nat.reduceLT, Nat.reduceLeDiff, reduceIte, Nat.reduceEqDiff, reduceCtorEq, argEnv, eq_self, if_true, if_false, *]))
  rw [itLim_eq]
  simp only [c58_l0, Int.lt_irrefl, fn_eq, evR, Nat.reduceAdd, Nat.reduceLT, Nat.reduceLeDiff, reduceIte, Nat.reduceEqDiff, reduceCtorEq, argEnv, eq_self, if_true, if_false]
  repeat' (first | (rw [guardK_cases]; split <;> simp only [c58_l0, Int.lt_irrefl, evR, Nat.reduceAdd, Nat.reduceLT, Nat.reduceLeDiff, reduceIte, Nat.reduceEqDiff, reduceCtorEq, argEnv, eq_self, if_true, if_false, *]) | (rw [condK_bool]; split <;> simp only [c58_l0, Int.lt_irrefl, evR, Nat.reduceAdd, Nat.reduceLT, Nat.reduceLeDiff, reduceIte, Nat.reduceEqDiff, reduceCtorEq, argEnv, eq_self, if_true, if_false, *]))
  have : noRef0 .nil0 = true := rfl
  refine ⟨[], H.length, by simp, by simp, ⟨by simp, by simp⟩, .inl ⟨rfl, .inl rfl⟩⟩
theorem f58' (F : Int) (rows : List Row) (hl : rows.length ≤ 1000000) (hv : ∀ r ∈ rows, r.2 ≠ [] ∧ r.2.length ≤ 1000000) (H : Heap) :
    ∃ rv G N, cal (evC cprog) false 58 [.agg [.int .i64 F, .lst (rows.map rRow)]] H = some (.agg [.int .i64 F, rv], H ++ G) ∧ Own H N rv rows (H ++ G) := by
  cases rows with
  | nil => obtain ⟨G, N, h⟩ := f58_nil F H; exact ⟨_, G, N, h⟩
  | cons r l => obtain ⟨G, N, h⟩ := f58 F (r :: l) (by simp) hl hv H; exact ⟨_, G, N, h⟩
end Go.Proofs.Ytehcdcnghcbimaa.Code
