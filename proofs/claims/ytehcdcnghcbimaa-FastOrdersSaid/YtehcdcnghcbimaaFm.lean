/- The document's copy of a table. -/
import Derived.Test.YtehcdcnghcbimaaFl
set_option linter.unusedSimpArgs false
set_option linter.unusedVariables false
namespace Go.Proofs.Ytehcdcnghcbimaa.Code
open Go.Proofs.Ytehcdcnghcbimaa.Ev

def vpos (j : Nat) : Nat := if j = 0 then 3 else 2 * j + 4
def row59 (base j : Nat) (r : Row) : List AV := [.str r.1, .ref (base + vpos j) 0 1 0 r.2.length]
def bSl (base j : Nat) (r : Row) : Blk := ⟨0, true, 76, 2, [row59 base j r]⟩
def els59 (base : Nat) (rows : List Row) (i : Nat) : List (List AV) := (rows.take i).mapIdx (row59 base)
def tl59 (base : Nat) (rows : List Row) : Nat → Heap
  | 0 => []
  | 1 => []
  | i + 2 => tl59 base rows (i + 1) ++ (match rows[i + 1]? with
    | some r => [bVals r.2, bSl base (i + 1) r]
    | none => [])
def hp59 (F : Int) (rv : AV) (rows : List Row) (r0 : Row) (H : Heap) (i : Nat) : Heap :=
  if i = 0 then H ++ [⟨0, true, 24, 2, [[.int .i64 F, rv]]⟩, ⟨0, true, 24, 2, [[.int .i64 0, .nils]]⟩, ⟨0, true, 24, 2, [[.int .i64 F, .nils]]⟩]
  else H ++ (⟨0, true, 24, 2, [[.int .i64 F, rv]]⟩ :: ⟨0, true, 24, 2, [[.int .i64 0, .nils]]⟩ :: ⟨0, true, 24, 2, [[.int .i64 F, .ref (H.length + 5) (i - 1) 2 0 i]]⟩ :: bVals r0.2 :: bSl H.length 0 r0 :: ⟨i - 1, true, 76, 2, els59 H.length rows i⟩ :: tl59 H.length rows i)
theorem tl59_len (base : Nat) (rows : List Row) : ∀ i, i + 1 ≤ rows.length → (tl59 base rows (i + 1)).length = 2 * i := by
  intro i
  induction i with
  | zero => intro _; rfl
  | succ i ih =>
    intro h
    have := ih (by omega)
    obtain ⟨r, hr⟩ : ∃ r, rows[i + 1]? = some r := ⟨_, List.getElem?_eq_getElem (by omega)⟩
    simp only [tl59, hr, List.length_append, this, List.length_cons, List.length_nil]
    omega
theorem els59_len (base : Nat) (rows : List Row) {i : Nat} (h : i ≤ rows.length) : (els59 base rows i).length = i := by simp [els59]; omega
theorem els59_succ (base : Nat) (rows : List Row) {i : Nat} {r : Row} (hr : rows[i]? = some r) : els59 base rows i ++ [row59 base i r] = els59 base rows (i + 1) := by
  have hi := (List.getElem?_eq_some_iff.1 hr).1
  unfold els59
  rw [List.take_add_one, hr, List.mapIdx_append]
  simp [Nat.min_eq_left (Nat.le_of_lt hi)]
theorem els59_at (base : Nat) (rows : List Row) {i j : Nat} {r : Row} (hr : rows[j]? = some r) (hj : j < i) : (els59 base rows i)[j]? = some (row59 base j r) := by
  unfold els59
  rw [List.getElem?_mapIdx, List.getElem?_take_of_lt hj, hr]; rfl
theorem app_vals {l : List Int} (hne : l ≠ []) (hl : l.length ≤ 1000000) (H : Heap) (a : AV) (ha : srcRows H a = some (l.map fun n => [.int .i64 n])) :
    appK 3 1 8 false H (some .nil0) (some a) = some (.ref H.length 0 1 0 l.length, H ++ [bVals l]) := by
  have := app_nil0 (ty := 3) (sz := 1) (bytes := 8) (H := H) (a := a) (src := l.map fun n => [.int .i64 n]) ha (by simp [hne]) (by cases l <;> simp_all [headOk]) (by simp [reach]; omega)
  simpa [bVals] using this
theorem f59_loop (F : Int) (rows : List Row) (hl : rows.length ≤ 1000000) (hv : ∀ r ∈ rows, r.2 ≠ [] ∧ r.2.length ≤ 1000000) (r0 : Row) (hr0 : rows[0]? = some r0) (rv : AV) (H : Heap) (hR : RowsAt H rv rows)
    (hsrc : ∀ (i : Nat) (r : Row) v p X, rows[i]? = some r → iaddrK 2 (some rv) (some (.int .i64 (i : Int))) = some p → PtrAt H p [.str r.1, v] → srcRows (H ++ X) v = some (r.2.map fun n => [.int .i64 n]))
    (st : St) (z : Option (CX × St))
    (hE : keepEnv st.1 [1, 2, 3, 4] = [(1, .ptr H.length 0 2 0 0), (2, .ptr (H.length + 1) 0 2 0 0), (3, .ptr (H.length + 2) 0 2 0 0), (4, .int .i64 0)])
    (hH : st.2 = hp59 F rv rows r0 H 0) (hz : itLim (evCode (evC cprog) itLim c59_l0) st = z) :
    ∃ T, z = some (.exit 0, T, hp59 F rv rows r0 H rows.length) ∧ keepEnv T [2, 3] = [(2, .ptr (H.length + 1) 0 2 0 0), (3, .ptr (H.length + 2) 0 2 0 0)] := by
  have h3 := hR.len
  have L := loop_rule (σ := Nat) (m := [1, 2, 3, 4]) (env := fun i => [(1, .ptr H.length 0 2 0 0), (2, .ptr (H.length + 1) 0 2 0 0), (3, .ptr (H.length + 2) 0 2 0 0), (4, .int .i64 (i : Int))])
    (hp := hp59 F rv rows r0 H) (P := fun _ r => ∃ T, r = (.exit 0, T, hp59 F rv rows r0 H rows.length) ∧ keepEnv T [2, 3] = [(2, .ptr (H.length + 1) 0 2 0 0), (3, .ptr (H.length + 2) 0 2 0 0)])
    (mu := fun i => rows.length - i) (I := fun i => i ≤ rows.length) (evCode (evC cprog) itLim c59_l0) ?_ 0 st (Nat.zero_le _) hE hH z hz
  · obtain ⟨r, rfl, T, rfl, hT⟩ := L
    exact ⟨T, rfl, hT⟩
  · intro i hi E hE
    by_cases hlt : i < rows.length
    · obtain ⟨r, hr⟩ : ∃ r, rows[i]? = some r := ⟨_, List.getElem?_eq_getElem hlt⟩
      have hm := List.mem_of_getElem? hr
      obtain ⟨v, p, hvv, hp, hat⟩ := hR.get hr
      have hi1 : (i : Int) < (rows.length : Int) := by omega
      have hap := fun X => app_vals (hv r hm).1 (hv r hm).2 (H ++ X) v (hsrc i r v p X hr hp hat)
      by_cases hi0 : i = 0
      · subst hi0
        rw [hr0] at hr; cases hr
        rw [show hp59 F rv rows r0 H 0 = H ++ [⟨0, true, 24, 2, [[.int .i64 F, rv]]⟩, ⟨0, true, 24, 2, [[.int .i64 0, .nils]]⟩, ⟨0, true, 24, 2, [[.int .i64 F, .nils]]⟩] from rfl]
        simp only [bVals] at hap
        simp only [c59_l0, hE, h3, hi1, hp, hat.faddr, hat.fldx, hap, reach, Nat.reduceMul, Option.map_some, wrapS hlt (by omega), evW, fn_eq, evR, Nat.reduceAdd, Nat.reduceLT, Nat.reduceLeDiff, reduceIte, Nat.reduceEqDiff, reduceCtorEq, argEnv, eq_self, if_true, if_false]
        repeat' (first | (rw [guardK_cases]; split <;> simp only [c59_l0, hE, h3, hi1, hp, hat.faddr, hat.fldx, hap, reach, Nat.reduceMul, Option.map_some, wrapS hlt (by omega), evW, evR, Nat.reduceAdd, Nat.reduceLT, Nat.reduceLeDiff, reduceIte, Nat.reduceEqDiff, reduceCtorEq, argEnv, eq_self, if_true, if_false, *]) | (rw [condK_bool]; split <;> simp only [c59_l0, hE, h3, hi1, hp, hat.faddr, hat.fldx, hap, reach, Nat.reduceMul, Option.map_some, wrapS hlt (by omega), evW, evR, Nat.reduceAdd, Nat.reduceLT, Nat.reduceLeDiff, reduceIte, Nat.reduceEqDiff, reduceCtorEq, argEnv, eq_self, if_true, if_false, *]) | (rw [guardD_cases]; split <;> simp only [c59_l0, hE, h3, hi1, hp, hat.faddr, hat.fldx, hap, reach, Nat.reduceMul, Option.map_some, wrapS hlt (by omega), evW, evR, Nat.reduceAdd, Nat.reduceLT, Nat.reduceLeDiff, reduceIte, Nat.reduceEqDiff, reduceCtorEq, argEnv, eq_self, if_true, if_false, *]))
        have e1 : els59 H.length rows 1 = [row59 H.length 0 r0] := by rw [← els59_succ H.length rows hr0]; simp [els59]
        exact q_next 1 (by rfl) (by rw [hp59, if_neg (by omega), e1]; rfl) (by omega) (by omega) (fun r h => h)
      · obtain ⟨i', rfl⟩ : ∃ i', i = i' + 1 := ⟨i - 1, by omega⟩
        rw [show hp59 F rv rows r0 H (i' + 1) = _ from if_neg hi0]
        have htl := tl59_len H.length rows i' hi
        have hel := els59_len H.length rows hi
        have hs := els59_succ H.length rows hr
        have htk : (els59 H.length rows (i' + 1)).take (i' + 1) = els59 H.length rows (i' + 1) := List.take_of_length_le (by omega)
        have hb1 : (i' + 1 + 1) * 40 ≤ 140737488355328 := by omega
        have hb2 : i' + 1 + 1 ≤ 140737488355328 := by omega
        generalize hTl : tl59 H.length rows (i' + 1) = Tl at *
        generalize hEl : els59 H.length rows (i' + 1) = El at *
        simp only [bVals] at hap
        simp only [Nat.add_sub_cancel, bVals, bSl]
        simp only [c59_l0, hE, h3, hi1, hp, hat.faddr, hat.fldx, hap, reach, htk, hb1, hb2, Option.map_some, wrapS hlt (by omega), evW, fn_eq, evR, Nat.reduceAdd, Nat.reduceLT, Nat.reduceLeDiff, reduceIte, Nat.reduceEqDiff, reduceCtorEq, argEnv, eq_self, if_true, if_false]
        repeat' (first | (rw [guardK_cases]; split <;> simp only [c59_l0, hE, h3, hi1, hp, hat.faddr, hat.fldx, hap, reach, htk, hb1, hb2, Option.map_some, wrapS hlt (by omega), evW, evR, Nat.reduceAdd, Nat.reduceLT, Nat.reduceLeDiff, reduceIte, Nat.reduceEqDiff, reduceCtorEq, argEnv, eq_self, if_true, if_false, *]) | (rw [condK_bool]; split <;> simp only [c59_l0, hE, h3, hi1, hp, hat.faddr, hat.fldx, hap, reach, htk, hb1, hb2, Option.map_some, wrapS hlt (by omega), evW, evR, Nat.reduceAdd, Nat.reduceLT, Nat.reduceLeDiff, reduceIte, Nat.reduceEqDiff, reduceCtorEq, argEnv, eq_self, if_true, if_false, *]) | (rw [guardD_cases]; split <;> simp only [c59_l0, hE, h3, hi1, hp, hat.faddr, hat.fldx, hap, reach, htk, hb1, hb2, Option.map_some, wrapS hlt (by omega), evW, evR, Nat.reduceAdd, Nat.reduceLT, Nat.reduceLeDiff, reduceIte, Nat.reduceEqDiff, reduceCtorEq, argEnv, eq_self, if_true, if_false, *]))
        have e2 : row59 H.length (i' + 1) r = [.str r.1, .ref (H.length + (Tl.length + 6)) 0 1 0 r.2.length] := by
          unfold row59 vpos
          rw [if_neg (by omega), htl, show 2 * (i' + 1) + 4 = 2 * i' + 6 by omega]
        exact q_next (i' + 2) (by rfl) (by
          rw [hp59, if_neg (by omega), ← hs, e2]
          simp only [tl59, hr, hTl, bSl, bVals, e2, Nat.add_sub_cancel]
          rfl) (by omega) (by omega) (fun r h => h)
    · have : i = rows.length := by omega
      subst this
      by_cases hi0 : rows.length = 0
      · rw [List.getElem?_eq_none (by omega)] at hr0; cases hr0
      · rw [show hp59 F rv rows r0 H rows.length = _ from if_neg hi0]
        simp only [c59_l0, hE, h3, Int.lt_irrefl, fn_eq, evR, Nat.reduceAdd, Nat.reduceLT, Nat.reduceLeDiff, reduceIte, Nat.reduceEqDiff, reduceCtorEq, argEnv, eq_self, if_true, if_false]
        repeat' (first | (rw [guardK_cases]; split <;> simp only [c59_l0, hE, h3, Int.lt_irrefl, evR, Nat.reduceAdd, Nat.reduceLT, Nat.reduceLeDiff, reduceIte, Nat.reduceEqDiff, reduceCtorEq, argEnv, eq_self, if_true, if_false, *]) | (rw [condK_bool]; split <;> simp only [c59_l0, hE, h3, Int.lt_irrefl, evR, Nat.reduceAdd, Nat.reduceLT, Nat.reduceLeDiff, reduceIte, Nat.reduceEqDiff, reduceCtorEq, argEnv, eq_self, if_true, if_false, *]))
        exact q_exit ⟨_, rfl, by rfl⟩
theorem tl59_at (base : Nat) (rows : List Row) {j : Nat} {r : Row} (hr : rows[j + 1]? = some r) : ∀ i, i + 1 ≤ rows.length → j < i → (tl59 base rows (i + 1))[2 * j]? = some (bVals r.2) := by
  intro i
  induction i with
  | zero => intro _ h; omega
  | succ i ih =>
    intro hi hj
    obtain ⟨r', hr'⟩ : ∃ r', rows[i + 1]? = some r' := ⟨_, List.getElem?_eq_getElem (by omega)⟩
    have hl := tl59_len base rows i (by omega)
    simp only [tl59, hr']
    by_cases h : j < i
    · rw [List.getElem?_append_left (by omega)]
      exact ih (by omega) h
    · have : j = i := by omega
      subst this
      rw [hr] at hr'; cases hr'
      rw [List.getElem?_append_right (by omega), hl, Nat.sub_self]
      rfl
theorem own59 (rows : List Row) (r0 : Row) (hr0 : rows[0]? = some r0) (H : Heap) (B1 B2 B3 : Blk) :
    Own H (H.length + (2 * rows.length + 4)) (.ref (H.length + 5) (rows.length - 1) 2 0 rows.length) rows (H ++ (B1 :: B2 :: B3 :: bVals r0.2 :: bSl H.length 0 r0 :: ⟨rows.length - 1, true, 76, 2, els59 H.length rows rows.length⟩ :: tl59 H.length rows rows.length)) := by
  have hpos : 0 < rows.length := (List.getElem?_eq_some_iff.1 hr0).1
  obtain ⟨m, hm⟩ : ∃ m, rows.length = m + 1 := ⟨rows.length - 1, by omega⟩
  have htl := tl59_len H.length rows m (by omega)
  have hvb : ∀ (i : Nat) (w : Nat × Nat), ((List.range rows.length).map fun j => (H.length + vpos j, 0))[i]? = some w → w = (H.length + vpos i, 0) := fun i w hw => by
    rw [List.getElem?_map] at hw
    cases h : (List.range rows.length)[i]? with
    | none => simp [h] at hw
    | some j =>
      have := (List.getElem?_eq_some_iff.1 h).2
      simp at this
      subst this
      simp [h] at hw
      exact hw.symm
  have hvp : ∀ i, i < rows.length → 3 ≤ vpos i ∧ vpos i < 2 * rows.length + 4 ∧ vpos i ≠ 5 := fun i hi => by
    unfold vpos; split <;> omega
  refine ⟨by simp, ⟨by omega, by rw [hm] at *; simp [htl]; omega⟩, .inr ⟨_, _, (List.range rows.length).map fun j => (H.length + vpos j, 0), rfl, by simp, ⟨by omega, by omega, ⟨rows.length - 1, true, 76, 2, els59 H.length rows rows.length⟩, by simp only [curBlk_eq, at_app, List.getElem?_cons_succ, List.getElem?_cons_zero, blkK_some, and_self, if_true], fun i r w hr hw => ?_⟩, fun i r w hr hw => ?_, fun i j w u hw hu hij => ?_⟩⟩
  · rw [hvb i w hw]
    exact els59_at H.length rows hr (List.getElem?_eq_some_iff.1 hr).1
  · rw [hvb i w hw]
    have hi := (List.getElem?_eq_some_iff.1 hr).1
    obtain ⟨k1, k2, k3⟩ := hvp i hi
    refine ⟨by simp only; omega, by simp only; omega, by simp only; omega, bVals r.2, ?_, fun j n hj => by simp [bVals, hj]⟩
    simp only [curBlk_eq, at_app]
    cases i with
    | zero => rw [hr0] at hr; cases hr; rfl
    | succ i =>
      rw [show vpos (i + 1) = 2 * i + 1 + 1 + 1 + 1 + 1 + 1 by unfold vpos; rw [if_neg (by omega)]; omega]
      simp only [List.getElem?_cons_succ]
      rw [hm, tl59_at H.length rows hr m (by omega) (by omega)]
      rfl
  · rw [hvb i w hw, hvb j u hu]
    simp only
    unfold vpos
    split <;> split <;> omega
theorem src_lst (rows : List Row) {i : Nat} {r : Row} {v p : AV} {H : Heap} (hr : rows[i]? = some r) (hp : iaddrK 2 (some (.lst (rows.map rRow))) (some (.int .i64 (i : Int))) = some p) (hat : PtrAt H p [.str r.1, v]) (X : Heap) :
    srcRows (H ++ X) v = some (r.2.map fun n => [.int .i64 n]) := by
  have h : (rows.map rRow)[i]? = some (rRow r) := by rw [List.getElem?_map, hr]; rfl
  rw [iaddr_lst, asNat_cast, atK_some, h, rowK_some, if_pos (show (rRow r).length = 2 from rfl)] at hp
  cases hp
  rcases hat with hat | ⟨b, v', s, i', k, hat, _⟩
  · cases hat; rfl
  · cases hat
theorem itLim_exit {body : St → Option (CX × St)} {s s' : St} {i : Nat} (h : body s = some (.exit i, s')) : itLim body s = some (.exit i, s') := by rw [itLim_eq, h]
theorem f59 (F : Int) (rows : List Row) (hl : rows.length ≤ 1000000) (hv : ∀ r ∈ rows, r.2 ≠ [] ∧ r.2.length ≤ 1000000) (H : Heap) :
    ∃ rv G N, cal (evC cprog) false 59 [.agg [.int .i64 F, .lst (rows.map rRow)]] H = some (.agg [.int .i64 F, rv], H ++ G) ∧ Own H N rv rows (H ++ G) := by
  rw [cal_of at59]
  cases rows with
  | nil =>
    simp only [c59, fn_eq, evR, Nat.reduceAdd, Nat.reduceLT, Nat.reduceLeDiff, reduceIte, Nat.reduceEqDiff, reduceCtorEq, argEnv, eq_self, if_true, if_false]
    repeat' (first | (rw [guardK_cases]; split <;> simp only [c59, evR, Nat.reduceAdd, Nat.reduceLT, Nat.reduceLeDiff, reduceIte, Nat.reduceEqDiff, reduceCtorEq, argEnv, eq_self, if_true, if_false, *]) | (rw [condK_bool]; split <;> simp only [c59, evR, Nat.reduceAdd, Nat.reduceLT, Nat.reduceLeDiff, reduceIte, Nat.reduceEqDiff, reduceCtorEq, argEnv, eq_self, if_true, if_false, *]))
    have h0 : ((0 : Nat) : Int) = 0 := rfl
    rw [itLim_eq]
    simp only [c59_l0, List.map_nil, h0, Int.lt_irrefl, fn_eq, evR, Nat.reduceAdd, Nat.reduceLT, Nat.reduceLeDiff, reduceIte, Nat.reduceEqDiff, reduceCtorEq, argEnv, eq_self, if_true, if_false]
    repeat' (first | (rw [guardK_cases]; split <;> simp only [c59_l0, List.map_nil, h0, Int.lt_irrefl, evR, Nat.reduceAdd, Nat.reduceLT, Nat.reduceLeDiff, reduceIte, Nat.reduceEqDiff, reduceCtorEq, argEnv, eq_self, if_true, if_false, *]) | (rw [condK_bool]; split <;> simp only [c59_l0, List.map_nil, h0, Int.lt_irrefl, evR, Nat.reduceAdd, Nat.reduceLT, Nat.reduceLeDiff, reduceIte, Nat.reduceEqDiff, reduceCtorEq, argEnv, eq_self, if_true, if_false, *]))
    exact ⟨.nils, [], H.length, by simp, by simp, ⟨by simp, by simp⟩, .inl ⟨rfl, .inr rfl⟩⟩
  | cons r0 rs =>
    have hR := RowsAt.lst H (r0 :: rs)
    have hlp := f59_loop F (r0 :: rs) hl hv r0 rfl (.lst ((r0 :: rs).map rRow)) H hR (fun i r v p X hr hp hat => src_lst _ hr hp hat X)
    generalize hrows : r0 :: rs = rows at *
    simp only [c59, fn_eq, evR, Nat.reduceAdd, Nat.reduceLT, Nat.reduceLeDiff, reduceIte, Nat.reduceEqDiff, reduceCtorEq, argEnv, eq_self, if_true, if_false]
    repeat' (first | (rw [guardK_cases]; split <;> simp only [c59, evR, Nat.reduceAdd, Nat.reduceLT, Nat.reduceLeDiff, reduceIte, Nat.reduceEqDiff, reduceCtorEq, argEnv, eq_self, if_true, if_false, *]) | (rw [condK_bool]; split <;> simp only [c59, evR, Nat.reduceAdd, Nat.reduceLT, Nat.reduceLeDiff, reduceIte, Nat.reduceEqDiff, reduceCtorEq, argEnv, eq_self, if_true, if_false, *]))
    generalize hz : itLim _ _ = z
    obtain ⟨T, rfl, hT⟩ := hlp _ z (by rfl) (by rw [hp59, if_pos rfl]) hz
    rw [show hp59 F (.lst (rows.map rRow)) rows r0 H rows.length = _ from if_neg (by rw [← hrows]; simp)]
    simp only [hT, fn_eq, evR, Nat.reduceAdd, Nat.reduceLT, Nat.reduceLeDiff, reduceIte, Nat.reduceEqDiff, reduceCtorEq, argEnv, eq_self, if_true, if_false]
    repeat' (first | (rw [guardK_cases]; split <;> simp only [hT, evR, Nat.reduceAdd, Nat.reduceLT, Nat.reduceLeDiff, reduceIte, Nat.reduceEqDiff, reduceCtorEq, argEnv, eq_self, if_true, if_false, *]) | (rw [condK_bool]; split <;> simp only [hT, evR, Nat.reduceAdd, Nat.reduceLT, Nat.reduceLeDiff, reduceIte, Nat.reduceEqDiff, reduceCtorEq, argEnv, eq_self, if_true, if_false, *]))
    exact ⟨_, _, _, rfl, own59 rows r0 (by rw [← hrows]; rfl) H _ _ _⟩
end Go.Proofs.Ytehcdcnghcbimaa.Code
