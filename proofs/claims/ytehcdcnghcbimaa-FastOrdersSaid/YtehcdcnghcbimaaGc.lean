/- Units that touch no row in common may be exchanged. -/
import Derived.Test.YtehcdcnghcbimaaGb
set_option linter.unusedSimpArgs false
set_option linter.unusedVariables false
namespace Go.Proofs.Ytehcdcnghcbimaa.Code
open Go.Proofs.Ytehcdcnghcbimaa.Ev

abbrev ix (k : ByteArray) (rows : List Row) : Int := idxOf (fun (r : Row) => decide (r.1 = k)) rows
theorem ix_cases (k : ByteArray) (rows : List Row) : ix k rows = -1 ∨ ∃ (i : Nat) (r : Row), ix k rows = i ∧ rows[i]? = some r ∧ r.1 = k := by
  unfold ix idxOf
  cases h : rows.findIdx? (fun (r : Row) => decide (r.1 = k)) with
  | none => exact .inl rfl
  | some i =>
    obtain ⟨h1, h2, _⟩ := List.findIdx?_eq_some_iff_getElem.1 h
    exact .inr ⟨i, rows[i], rfl, List.getElem?_eq_getElem h1, by simpa using h2⟩
theorem ix_set (k : ByteArray) (rows : List Row) {i : Nat} {r r' : Row} (hr : rows[i]? = some r) (hk : r'.1 = r.1) : ix k (rows.set i r') = ix k rows := by
  have h : ∀ rows : List Row, rows.findIdx? (fun (r : Row) => decide (r.1 = k)) = (rows.map (·.1)).findIdx? (fun s => decide (s = k)) := fun rows => by
    rw [List.findIdx?_map]; rfl
  unfold ix idxOf
  rw [h, h]
  have : (rows.set i r').map (·.1) = rows.map (·.1) := by
    rw [List.map_set]
    apply List.ext_getElem?
    intro j
    by_cases hj : j = i
    · subst hj
      have := (List.getElem?_eq_some_iff.1 hr).1
      rw [List.getElem?_set_self (by simpa using this), List.getElem?_map, hr, hk]; rfl
    · rw [List.getElem?_set_ne (fun e => hj e.symm)]
  rw [this]
/-- what one call may do -/
theorem doOne_cases (F : Int) (rows : List Row) (c : Fld) : (doOne F rows c).2 = rows ∨ ∃ (i : Nat) (r r' : Row), rows[i]? = some r ∧ r.1 = c.key ∧ r'.1 = r.1 ∧ (doOne F rows c).2 = rows.set i r' := by
  unfold doOne
  rcases ix_cases c.key rows with h | ⟨i, r, h, hr, hk⟩
  · rw [if_pos (by unfold ix at h; omega)]; exact .inl rfl
  · unfold ix at h
    split
    · exact .inl rfl
    · split
      · exact .inl rfl
      · split
        · exact .inl rfl
        · split
          · exact .inl rfl
          · refine .inr ⟨i, r, (r.1, r.2.set c.field.toNat (next c (valAt rows i c.field.toNat))), hr, hk, rfl, ?_⟩
            simp only [h, Int.toNat_natCast, putAt, hr]
theorem doOne_set (F : Int) (rows : List Row) (d : Fld) {i : Nat} {r r' : Row} (hr : rows[i]? = some r) (hk : r'.1 = r.1) (hd : r.1 ≠ d.key) :
    doOne F (rows.set i r') d = ((doOne F rows d).1, (doOne F rows d).2.set i r') := by
  have hx := ix_set d.key rows hr hk
  unfold ix at hx
  unfold doOne
  rw [hx]
  rcases ix_cases d.key rows with h | ⟨j, s, h, hs, hj⟩
  · unfold ix at h
    rw [if_pos (by omega), if_pos (by omega)]
  · unfold ix at h
    have hij : i ≠ j := fun e => by
      subst e
      rw [hr] at hs
      cases hs
      exact hd hj
    have hsame : (rows.set i r')[j]? = rows[j]? := List.getElem?_set_ne hij
    have hv : ∀ f, valAt (rows.set i r') j f = valAt rows j f := fun f => by unfold valAt; rw [hsame]
    have hp : ∀ f n, putAt (rows.set i r') j f n = (putAt rows j f n).set i r' := fun f n => by
      unfold putAt
      rw [hsame, hs]
      simp only
      rw [List.set_comm _ _ hij]
    simp only [h, Int.toNat_natCast, hv, hp]
    repeat' split
    all_goals rfl
theorem one_far (F : Int) (rows : List Row) {c d : Fld} (h : c.key ≠ d.key) : (doOne F (doOne F rows c).2 d).1 = (doOne F rows d).1 ∧ (doOne F (doOne F rows c).2 d).2 = (doOne F (doOne F rows d).2 c).2 := by
  rcases doOne_cases F rows c with h1 | ⟨i, r, r', hr, hk, hk', h1⟩
  · refine ⟨by rw [h1], ?_⟩
    rw [h1]
    rcases doOne_cases F rows d with h2 | ⟨j, s, s', hs, hd, hd', h2⟩
    · rw [h2, h1]
    · rw [h2, doOne_set F rows c hs hd' (by rw [hd]; exact fun e => h e.symm), h1]
  · have e1 := doOne_set F rows d hr hk' (by rw [hk]; exact h)
    refine ⟨by rw [h1, e1], ?_⟩
    rw [h1, e1]
    rcases doOne_cases F rows d with h2 | ⟨j, s, s', hs, hd, hd', h2⟩
    · rw [h2, h1]
    · rw [h2, doOne_set F rows c hs hd' (by rw [hd]; exact fun e => h e.symm), h1]
      simp only
      rw [List.set_comm]
      rintro rfl
      rw [hr] at hs
      cases hs
      exact h (by rw [← hk, ← hd])
theorem far_bad (F : Int) (rows : List Row) {c d : Fld} (h : c.key ≠ d.key) : bad F (after F rows c) d = bad F rows d := by
  unfold bad after; rw [(one_far F rows h).1]
theorem far_after (F : Int) (rows : List Row) {c d : Fld} (h : c.key ≠ d.key) : after F (after F rows c) d = after F (after F rows d) c := (one_far F rows h).2
theorem run_far (F : Int) {c : Fld} : ∀ (m : List Fld) (rows : List Row) (k : Nat), (∀ d ∈ m, c.key ≠ d.key) →
    runIdx (bad F) (after F) (after F rows c) m k = ((runIdx (bad F) (after F) rows m k).1, after F (runIdx (bad F) (after F) rows m k).2 c) ∧ bad F (runIdx (bad F) (after F) rows m k).2 c = bad F rows c
  | [], rows, k, _ => ⟨rfl, rfl⟩
  | d :: m, rows, k, h => by
    have hd := h d (List.mem_cons_self ..)
    have ih := run_far F m (after F rows d) (k + 1) fun e he => h e (List.mem_cons_of_mem _ he)
    simp only [runIdx, far_bad F rows hd, far_after F rows hd]
    split
    · exact ⟨rfl, far_bad F rows (fun e => hd e.symm)⟩
    · exact ⟨ih.1, by rw [ih.2]; exact far_bad F rows (fun e => hd e.symm)⟩
theorem runs_far (F : Int) {m : List Fld} (k' : Nat) : ∀ (l : List Fld) (rows : List Row) (k : Nat), (∀ c ∈ l, ∀ d ∈ m, c.key ≠ d.key) →
    runIdx (bad F) (after F) (runIdx (bad F) (after F) rows l k).2 m k' = ((runIdx (bad F) (after F) rows m k').1, (runIdx (bad F) (after F) (runIdx (bad F) (after F) rows m k').2 l k).2) ∧
      (runIdx (bad F) (after F) (runIdx (bad F) (after F) rows m k').2 l k).1 = (runIdx (bad F) (after F) rows l k).1
  | [], rows, k, _ => ⟨rfl, rfl⟩
  | c :: l, rows, k, h => by
    have hc := run_far F m rows k' (h c (List.mem_cons_self ..))
    have ih := runs_far F k' l (after F rows c) (k + 1) fun e he => h e (List.mem_cons_of_mem _ he)
    simp only [runIdx, hc.2]
    rw [hc.1] at ih
    split
    · exact ⟨hc.1, rfl⟩
    · exact ih
theorem units_far (F : Int) (rows : List Row) {l m : List Fld} (h : ∀ c ∈ l, ∀ d ∈ m, c.key ≠ d.key) :
    (ordered F rows [l, m]).1 = (ordered F rows [m, l]).1 ∧ ∃ a b, (ordered F rows [l, m]).2 = [a, b] ∧ (ordered F rows [m, l]).2 = [b, a] := by
  obtain ⟨h1, h2⟩ := runs_far F (m := m) 0 l rows 0 h
  have h3 : (runUnit F (runUnit F rows l).2 m).1 = (runUnit F rows m).1 := by unfold runUnit; rw [h1]
  have h4 : (runUnit F (runUnit F rows m).2 l).1 = (runUnit F rows l).1 := h2
  have h5 : (runUnit F (runUnit F rows l).2 m).2 = (runUnit F (runUnit F rows m).2 l).2 := by
    show (runIdx (bad F) (after F) (runIdx (bad F) (after F) rows l 0).2 m 0).2 = _
    rw [h1]; rfl
  by_cases hl : (runUnit F rows l).1 < 0 <;> by_cases hm : (runUnit F rows m).1 < 0 <;> simp [ordered, hl, hm, h3, h4, h5]
end Go.Proofs.Ytehcdcnghcbimaa.Code
