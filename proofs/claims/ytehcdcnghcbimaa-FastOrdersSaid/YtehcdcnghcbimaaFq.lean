/- fast: what a frozen table is. -/
import Derived.Test.YtehcdcnghcbimaaFp
set_option linter.unusedSimpArgs false
set_option linter.unusedVariables false
namespace Go.Proofs.Ytehcdcnghcbimaa.Code
open Go.Proofs.Ytehcdcnghcbimaa.Ev

theorem kill_take (n : Nat) : ∀ (ids : List Nat) (H : Heap), (∀ b ∈ ids, n ≤ b) → (kill H ids).take n = H.take n
  | [], H, _ => rfl
  | b :: ids, H, h => by
    rw [kill, kill_take n ids _ fun c hc => h c (List.mem_cons_of_mem _ hc)]
    have hb := h b (List.mem_cons_self ..)
    split
    · rw [List.take_set_of_le hb]
    · rfl
def fzK (b : Nat) (r : Option (List (List AV) × List Nat)) : Option (AV × List Nat) :=
  match r with
  | some (l, ids) => some (.lst l, b :: ids)
  | none => none
theorem fz_ref {H : Heap} {n b v sz off len : Nat} {k : Blk} (hk : curBlk H b v sz = some k) : fz H (n + 1) (.ref b v sz off (len + 1)) = fzK b (fzRows (fz H n) ((k.els.drop off).take (len + 1))) := by
  show (match curBlk H b v sz with
    | some k => match fzRows (fz H n) ((k.els.drop off).take (len + 1)) with
      | some (l, ids) => some (AV.lst l, b :: ids)
      | none => none
    | none => none) = _
  rw [hk]; rfl
theorem fz_int (H : Heap) (n : Nat) (k : IntKind) (x : Int) : fz H (n + 1) (.int k x) = some (.int k x, []) := rfl
theorem fzRows_ints (H : Heap) (n : Nat) : ∀ l : List Int, fzRows (fz H (n + 1)) (l.map fun x => [.int .i64 x]) = some (l.map fun x => [.int .i64 x], [])
  | [] => rfl
  | x :: l => by
    simp only [List.map_cons, fzRows, fzCells, fz_int, fzRows_ints H n l, List.append_nil]
theorem fz_vals {H : Heap} {n b v : Nat} {k : Blk} {l : List Int} (hne : l ≠ []) (hk : curBlk H b v 1 = some k) (he : ∀ (j : Nat) (x : Int), l[j]? = some x → k.els[j]? = some [.int .i64 x]) :
    fz H (n + 2) (.ref b v 1 0 l.length) = some (eInts l, [b]) := by
  obtain ⟨m, hm⟩ : ∃ m, l.length = m + 1 := ⟨l.length - 1, by have := List.length_pos_iff.2 hne; omega⟩
  have ht : (k.els.drop 0).take (m + 1) = l.map fun x => [.int .i64 x] := by
    apply List.ext_getElem?
    intro j
    rw [List.drop_zero, List.getElem?_map]
    by_cases hj : j < l.length
    · obtain ⟨x, hx⟩ : ∃ x, l[j]? = some x := ⟨_, List.getElem?_eq_getElem hj⟩
      rw [List.getElem?_take_of_lt (by omega), he j x hx, hx]; rfl
    · rw [List.getElem?_eq_none (by simp; omega), List.getElem?_eq_none (by omega)]; rfl
  rw [hm, fz_ref hk, ht, fzRows_ints]
  rfl
theorem fz_rows {B N b v : Nat} {H : Heap} (n : Nat) : ∀ (rows : List Row) (vb : List (Nat × Nat)), rows.length = vb.length →
    (∀ (i : Nat) (r : Row) (w : Nat × Nat), rows[i]? = some r → vb[i]? = some w → r.2 ≠ [] ∧ ∃ k, curBlk H w.1 w.2 1 = some k ∧ ∀ (j : Nat) (n : Int), r.2[j]? = some n → k.els[j]? = some [.int .i64 n]) →
    fzRows (fz H (n + 2)) (List.zipWith (fun (r : Row) (w : Nat × Nat) => [AV.str r.1, AV.ref w.1 w.2 1 0 r.2.length]) rows vb) = some (rows.map rRow, vb.map (·.1))
  | [], [], _, _ => rfl
  | [], _ :: _, h, _ => by simp at h
  | _ :: _, [], h, _ => by simp at h
  | r :: rows, w :: vb, h, hr => by
    obtain ⟨hne, k, hk, he⟩ := hr 0 r w rfl rfl
    have h1 := fz_vals (n := n) hne hk he
    have h2 := fz_rows (B := B) (N := N) (b := b) (v := v) n rows vb (by simpa using h) fun i r w hr' hw' => hr (i + 1) r w (by simpa using hr') (by simpa using hw')
    have h3 : fz H (n + 2) (.str r.1) = some (.str r.1, []) := rfl
    simp only [List.zipWith_cons_cons, fzRows, fzCells, h1, h2, h3, List.map_cons, rRow, List.append_nil, List.nil_append, List.cons_append]
theorem fz_tab {H0 : Heap} {N : Nat} {rv : AV} {rows : List Row} {H : Heap} (h : Own H0 N rv rows H) (hv : ∀ r ∈ rows, r.2 ≠ []) : ∃ ids, fz H 8 rv = some (.lst (rows.map rRow), ids) ∧ ∀ b ∈ ids, H0.length ≤ b := by
  rcases h.tab with ⟨rfl, rfl | rfl⟩ | ⟨b, v, vb, rfl, hL⟩
  · exact ⟨[], rfl, by simp⟩
  · exact ⟨[], rfl, by simp⟩
  · obtain ⟨hb1, hb2, k, hk, hrow⟩ := hL.blk
    have hlen := hL.len
    cases hrows : rows with
    | nil => subst hrows; exact ⟨[], rfl, by simp⟩
    | cons r0 rs =>
      rw [← hrows]
      obtain ⟨m, hm⟩ : ∃ m, rows.length = m + 1 := ⟨rs.length, by rw [hrows]; rfl⟩
      have ht : (k.els.drop 0).take (m + 1) = List.zipWith (fun (r : Row) (w : Nat × Nat) => [AV.str r.1, AV.ref w.1 w.2 1 0 r.2.length]) rows vb := by
        apply List.ext_getElem?
        intro i
        rw [List.drop_zero, List.getElem?_zipWith]
        by_cases hi : i < rows.length
        · obtain ⟨r, hr⟩ : ∃ r, rows[i]? = some r := ⟨_, List.getElem?_eq_getElem hi⟩
          obtain ⟨w, hw⟩ : ∃ w, vb[i]? = some w := ⟨_, List.getElem?_eq_getElem (by omega)⟩
          rw [List.getElem?_take_of_lt (by omega), hrow i r w hr hw, hr, hw]
        · rw [List.getElem?_eq_none (by simp; omega), List.getElem?_eq_none (l := rows) (by omega)]
      have hz := fz_rows (B := 0) (N := 0) (b := 0) (v := 0) (H := H) 5 rows vb hlen.symm fun i r w hr hw => ⟨hv r (List.mem_of_getElem? hr), (hL.vals i r w hr hw).2.2.2⟩
      refine ⟨b :: vb.map (·.1), ?_, fun c hc => ?_⟩
      · rw [hm, fz_ref hk, ht, hz]
        rfl
      · rcases List.mem_cons.1 hc with rfl | hc
        · exact hb1
        · obtain ⟨w, hw, rfl⟩ := List.mem_map.1 hc
          obtain ⟨i, hi⟩ := List.getElem?_of_mem hw
          obtain ⟨r, hr⟩ : ∃ r, rows[i]? = some r := ⟨_, List.getElem?_eq_getElem (by have := (List.getElem?_eq_some_iff.1 hi).1; omega)⟩
          exact (hL.vals i r w hr hi).1
end Go.Proofs.Ytehcdcnghcbimaa.Code
