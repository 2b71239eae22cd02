/- fast: a table with memory of its own. -/
import Derived.Test.YtehcdcnghcbimaaFd
import Derived.Test.YtehcdcnghcbimaaEvV
set_option linter.unusedSimpArgs false
set_option linter.unusedVariables false
namespace Go.Proofs.Ytehcdcnghcbimaa.Code
open Go.Proofs.Ytehcdcnghcbimaa.Ev

/-- where the rows and the values lie -/
structure OwnL (B N b v : Nat) (vb : List (Nat × Nat)) (H : Heap) (rows : List Row) : Prop where
  len : vb.length = rows.length
  blk : B ≤ b ∧ b < N ∧ ∃ k, curBlk H b v 2 = some k ∧ ∀ (i : Nat) (r : Row) (w : Nat × Nat), rows[i]? = some r → vb[i]? = some w → k.els[i]? = some [.str r.1, .ref w.1 w.2 1 0 r.2.length]
  vals : ∀ (i : Nat) (r : Row) (w : Nat × Nat), rows[i]? = some r → vb[i]? = some w → B ≤ w.1 ∧ w.1 < N ∧ w.1 ≠ b ∧ ∃ k, curBlk H w.1 w.2 1 = some k ∧ ∀ (j : Nat) (n : Int), r.2[j]? = some n → k.els[j]? = some [.int .i64 n]
  inj : ∀ (i j : Nat) (w u : Nat × Nat), vb[i]? = some w → vb[j]? = some u → i ≠ j → w.1 ≠ u.1
structure Own (H0 : Heap) (N : Nat) (rv : AV) (rows : List Row) (H : Heap) : Prop where
  pre : H.take H0.length = H0
  le : H0.length ≤ N ∧ N ≤ H.length
  tab : (rows = [] ∧ (rv = .nil0 ∨ rv = .nils)) ∨ ∃ b v vb, rv = .ref b v 2 0 rows.length ∧ OwnL H0.length N b v vb H rows

theorem curBlk_of {H H' : Heap} {b v s : Nat} (h : H'[b]? = H[b]?) : curBlk H' b v s = curBlk H b v s := by unfold curBlk; rw [h]
theorem OwnL.move {B N b v : Nat} {vb : List (Nat × Nat)} {H H' : Heap} {rows : List Row} (h : OwnL B N b v vb H rows) (he : ∀ g, B ≤ g → g < N → H'[g]? = H[g]?) : OwnL B N b v vb H' rows := by
  obtain ⟨k, hk, hr⟩ := h.blk.2.2
  refine ⟨h.len, ⟨h.blk.1, h.blk.2.1, k, by rw [curBlk_of (he b h.blk.1 h.blk.2.1)]; exact hk, hr⟩, fun i r w hr hw => ?_, h.inj⟩
  obtain ⟨h1, h2, h3, k, h4, h5⟩ := h.vals i r w hr hw
  exact ⟨h1, h2, h3, k, by rw [curBlk_of (he w.1 h1 h2)]; exact h4, h5⟩
theorem Own.app {H0 : Heap} {N : Nat} {rv : AV} {rows : List Row} {H : Heap} (h : Own H0 N rv rows H) (X : Heap) : Own H0 N rv rows (H ++ X) := by
  have hle := h.le
  refine ⟨by rw [List.take_append_of_le_length (by omega)]; exact h.pre, ⟨hle.1, by simp; omega⟩, ?_⟩
  rcases h.tab with h1 | ⟨b, v, vb, h1, h2⟩
  · exact .inl h1
  · exact .inr ⟨b, v, vb, h1, h2.move fun g _ hg => List.getElem?_append_left (by omega)⟩
theorem Own.trunc {H0 : Heap} {N : Nat} {rv : AV} {rows : List Row} {H H1 : Heap} (h : Own H0 N rv rows H1) (hN : N ≤ H.length) (ht : H1.take H.length = H) : Own H0 N rv rows H := by
  have hle := h.le
  refine ⟨by rw [← ht, List.take_take, Nat.min_eq_left (by omega)]; exact h.pre, ⟨hle.1, hN⟩, ?_⟩
  rcases h.tab with h1 | ⟨b, v, vb, h1, h2⟩
  · exact .inl h1
  · exact .inr ⟨b, v, vb, h1, h2.move fun g _ hg => by rw [← ht, List.getElem?_take_of_lt (by omega)]⟩
theorem Own.swap {H1 H1' G : Heap} {N : Nat} {rv : AV} {rows : List Row} (h : Own H1 N rv rows (H1 ++ G)) (hl : H1'.length = H1.length) : Own H1' N rv rows (H1' ++ G) := by
  have hle := h.le
  refine ⟨by simp, by rw [hl]; exact ⟨hle.1, by simp at hle ⊢; omega⟩, ?_⟩
  rcases h.tab with h1 | ⟨b, v, vb, h1, h2⟩
  · exact .inl h1
  · refine .inr ⟨b, v, vb, h1, ?_⟩
    rw [hl]
    exact h2.move fun g hg _ => by rw [List.getElem?_append_right (by omega), List.getElem?_append_right (by omega), hl]
theorem Own.rowsAt {H0 : Heap} {N : Nat} {rv : AV} {rows : List Row} {H : Heap} (h : Own H0 N rv rows H) : RowsAt H rv rows := by
  rcases h.tab with ⟨rfl, rfl | rfl⟩ | ⟨b, v, vb, rfl, hL⟩
  · exact ⟨[], ⟨rfl, fun i row hi => by simp at hi⟩, rfl, fun i r hr => by simp at hr⟩
  · exact ⟨[], ⟨rfl, fun i row hi => by simp at hi⟩, rfl, fun i r hr => by simp at hr⟩
  · obtain ⟨_, _, k, hk, hrow⟩ := hL.blk
    have hlen := hL.len
    have hw : ∀ (i : Nat) (r : Row), rows[i]? = some r → ∃ w, vb[i]? = some w := fun i r hr => ⟨_, List.getElem?_eq_getElem (by have := (List.getElem?_eq_some_iff.1 hr).1; omega)⟩
    have hz : ∀ (i : Nat) (r : Row) (w : Nat × Nat), rows[i]? = some r → vb[i]? = some w → (List.zipWith (fun (r : Row) (w : Nat × Nat) => [AV.str r.1, AV.ref w.1 w.2 1 0 r.2.length]) rows vb)[i]? = some [.str r.1, .ref w.1 w.2 1 0 r.2.length] := fun i r w hr hw => by
      rw [List.getElem?_zipWith, hr, hw]
    have hzl : (List.zipWith (fun (r : Row) (w : Nat × Nat) => [AV.str r.1, AV.ref w.1 w.2 1 0 r.2.length]) rows vb).length = rows.length := by simp; omega
    refine ⟨List.zipWith (fun (r : Row) (w : Nat × Nat) => [AV.str r.1, AV.ref w.1 w.2 1 0 r.2.length]) rows vb, ?_, hzl, fun i r hr => ?_⟩
    · have := SlAt.ref (off := 0) (rows := List.zipWith (fun (r : Row) (w : Nat × Nat) => [AV.str r.1, AV.ref w.1 w.2 1 0 r.2.length]) rows vb) hk fun i row hi => by
        have hil : i < rows.length := by have := (List.getElem?_eq_some_iff.1 hi).1; omega
        obtain ⟨r, hr⟩ : ∃ r, rows[i]? = some r := ⟨_, List.getElem?_eq_getElem hil⟩
        obtain ⟨w, hw⟩ := hw i r hr
        rw [hz i r w hr hw] at hi
        cases hi
        exact ⟨rfl, by rw [Nat.zero_add]; exact hrow i r w hr hw⟩
      rw [hzl] at this
      exact this
    · obtain ⟨w, hw⟩ := hw i r hr
      refine ⟨_, hz i r w hr hw, ?_⟩
      obtain ⟨_, _, _, k', hk', hv⟩ := hL.vals i r w hr hw
      have := SlAt.ref (off := 0) (rows := r.2.map fun n => [AV.int .i64 n]) hk' fun j row hj => by
        rw [List.getElem?_map] at hj
        cases hn : r.2[j]? with
        | none => simp [hn] at hj
        | some n =>
          simp only [hn, Option.map_some, Option.some.injEq] at hj
          subst hj
          exact ⟨rfl, by rw [Nat.zero_add]; exact hv j n hn⟩
      rw [List.length_map] at this
      exact this
theorem RowsAt.pairs {H : Heap} {rv : AV} {rows : List Row} (h : RowsAt H rv rows) : ∃ l : List (ByteArray × AV), SlAt H 2 rv (l.map fun x => [.str x.1, x.2]) ∧ l.length = rows.length ∧ ∀ (i : Nat) (r : Row), rows[i]? = some r → ∃ v, l[i]? = some (r.1, v) := by
  obtain ⟨rws, h1, h2, h3⟩ := h.rws
  let f : List AV → ByteArray × AV := fun r => match r with
    | [.str s, v] => (s, v)
    | _ => (ByteArray.empty, .nils)
  have e : (rws.map f).map (fun x => [AV.str x.1, x.2]) = rws := by
    apply List.ext_getElem?
    intro i
    rw [List.getElem?_map, List.getElem?_map]
    by_cases hi : i < rows.length
    · obtain ⟨r, hr⟩ : ∃ r, rows[i]? = some r := ⟨_, List.getElem?_eq_getElem hi⟩
      obtain ⟨v, k1, _⟩ := h3 i r hr
      rw [k1]; rfl
    · rw [List.getElem?_eq_none (by omega)]; rfl
  refine ⟨rws.map f, by rw [e]; exact h1, by simp [h2], fun i r hr => ?_⟩
  obtain ⟨v, k1, _⟩ := h3 i r hr
  exact ⟨v, by rw [List.getElem?_map, k1]; rfl⟩
theorem idxOf_congr {α β : Type} (p : α → Bool) (q : β → Bool) : ∀ (l : List α) (m : List β), l.length = m.length → (∀ (i : Nat) x y, l[i]? = some x → m[i]? = some y → p x = q y) → l.findIdx? p = m.findIdx? q
  | [], [], _, _ => rfl
  | [], _ :: _, h, _ => by simp at h
  | _ :: _, [], h, _ => by simp at h
  | x :: l, y :: m, h, hp => by
    rw [List.findIdx?_cons, List.findIdx?_cons, hp 0 x y rfl rfl, idxOf_congr p q l m (by simpa using h) fun i a b ha hb => hp (i + 1) a b (by simpa using ha) (by simpa using hb)]
theorem f74 (k : ByteArray) (v : AV) (c : Fld) (bc : Nat) (H : Heap) (hb : ∀ X, (H ++ X)[bc]? = some ⟨0, true, 37, 4, [rFld c]⟩) :
    cal (evC cprog) false 74 [.agg [.str k, v], .ptr bc 0 4 0 0] H = some (.bool (decide (k = c.key)), H) := by
  rw [cal_of at74]
  simp only [rFld] at hb
  simp only [c74, hb, fn_eq, evR, Nat.reduceAdd, Nat.reduceLT, Nat.reduceLeDiff, reduceIte, Nat.reduceEqDiff, reduceCtorEq, argEnv, eq_self, if_true, if_false]
  repeat' (first | (rw [guardK_cases]; split <;> simp only [c74, hb, evR, Nat.reduceAdd, Nat.reduceLT, Nat.reduceLeDiff, reduceIte, Nat.reduceEqDiff, reduceCtorEq, argEnv, eq_self, if_true, if_false, *]) | (rw [condK_bool]; split <;> simp only [c74, hb, evR, Nat.reduceAdd, Nat.reduceLT, Nat.reduceLeDiff, reduceIte, Nat.reduceEqDiff, reduceCtorEq, argEnv, eq_self, if_true, if_false, *]))
theorem f73 (rows : List Row) (rv : AV) (c : Fld) (bc : Nat) (H : Heap) (hl : rows.length < 9223372036854775807) (hr : RowsAt H rv rows) (hb : ∀ X, (H ++ X)[bc]? = some ⟨0, true, 37, 4, [rFld c]⟩) :
    cal (evC cprog) false 73 [rv, .fn 74 [.ptr bc 0 4 0 0]] H = some (.int .i64 (idxOf (fun (r : Row) => decide (r.1 = c.key)) rows), H) := by
  obtain ⟨l, h1, h2, h3⟩ := hr.pairs
  have := indexFunc_ok (sz := 2) (ag := true) at73 (fun (x : ByteArray × AV) => [.str x.1, x.2]) (fun x => .agg [.str x.1, x.2]) (fun x => ⟨rfl, rfl⟩) 74 [.ptr bc 0 4 0 0] (fun x => decide (x.1 = c.key)) H rv l h1 (by omega) fun x _ => f74 x.1 x.2 c bc H hb
  rw [this]
  unfold idxOf
  rw [idxOf_congr (fun x => decide (x.1 = c.key)) (fun (r : Row) => decide (r.1 = c.key)) l rows h2 fun i x y hx hy => by
    obtain ⟨v, hv⟩ := h3 i y hy
    rw [hv] at hx; cases hx; rfl]
end Go.Proofs.Ytehcdcnghcbimaa.Code
