/- slices.Delete, once for all types; results that are frozen. -/
import Derived.Test.YtbdpceigmnpoaaaGreatDoorEvY
set_option linter.unusedSimpArgs false
set_option linter.unusedVariables false
namespace Go.Proofs.YtbdpceigmnpoaaaGreatDoor.Ev

def cDelete (ty sz bytes : Nat) (zero : List AV) : CFn := ⟨33, [.t 6],
 (.seq
 (.region [0, 1, 2] [⟨(some 6), .mv (.c (.nils)), none, [], []⟩])
 (.seq
 (.region [0, 1, 2] [⟨(some 8), .mv (.t 0), none, [], []⟩,
   ⟨(some 9), .mv (.t 1), none, [], []⟩,
   ⟨(some 10), .mv (.t 2), none, [], []⟩,
   ⟨(some 11), .mv (.t 0), none, [], []⟩,
   ⟨(some 12), .len false (.t 11), none, [], []⟩,
   ⟨(some 13), .slc sz (.t 8) (some (.t 9)) (some (.t 10)) (some (.t 12)), none, [], []⟩])
 (.seq
 (.seq
 (.region [0, 1, 2] [⟨(some 14), .mv (.t 1), none, [], []⟩,
   ⟨(some 15), .mv (.t 2), none, [], []⟩,
   ⟨(some 16), .bin .eql (.t 14) (.t 15), none, [], []⟩])
 (.cond (.t 16)
 (.seq
 (.region [0] [⟨(some 17), .mv (.t 0), none, [], []⟩,
   ⟨(some 6), .mv (.t 17), none, [], []⟩])
 .ret)
 .skip))
 (.seq
 (.region [0, 1, 2] [⟨(some 18), .mv (.t 0), none, [], []⟩,
   ⟨(some 19), .len false (.t 18), none, [], []⟩,
   ⟨(some 7), .mv (.t 19), none, [], []⟩])
 (.seq
 (.draw [0, 1, 2, 7] [⟨(some 20), .mv (.t 0), none, [], []⟩,
   ⟨(some 21), .mv (.t 1), none, [], []⟩,
   ⟨(some 22), .slc sz (.t 20) none (some (.t 21)) none, none, [0, 1], []⟩,
   ⟨(some 23), .mv (.t 0), none, [], []⟩,
   ⟨(some 24), .mv (.t 2), none, [], []⟩,
   ⟨(some 25), .slc sz (.t 23) (some (.t 24)) none none, none, [3, 4], []⟩,
   ⟨(some 26), .app ty sz bytes true (.t 22) (.t 25), none, [0, 1, 2, 3, 4, 5], []⟩,
   ⟨(some 0), .mv (.t 26), none, [0, 1, 2, 3, 4, 5, 6], []⟩])
 (.seq
 (.region [0, 7] [⟨(some 27), .mv (.t 0), none, [], []⟩,
   ⟨(some 28), .mv (.t 0), none, [], []⟩,
   ⟨(some 29), .len false (.t 28), none, [], []⟩,
   ⟨(some 30), .mv (.t 7), none, [], []⟩,
   ⟨(some 31), .slc sz (.t 27) (some (.t 29)) (some (.t 30)) none, none, [], []⟩,
   ⟨none, .clear sz zero (.t 31), none, [], []⟩])
 (.seq
 (.region [0] [⟨(some 32), .mv (.t 0), none, [], []⟩,
   ⟨(some 6), .mv (.t 32), none, [], []⟩])
 .ret))))))), false, false⟩
theorem delete_ref {cprog : Nat → Option CFn} {f ty sz bytes : Nat} {zero : List AV} (hat : cprog f = some (cDelete ty sz bytes zero)) (hz : zero.length = sz) (b v : Nat) (els : List (List AV)) (hrow : ∀ r ∈ els, r.length = sz) (H : Heap)
    (hb : H[b]? = some ⟨v, true, ty, sz, els⟩) (i e : Nat) (hi : i < e) (he : e ≤ els.length) :
    cal (evC cprog) false f [.ref b v sz 0 els.length, .int .i64 (i : Int), .int .i64 (e : Int)] H = some (.ref b v sz 0 (i + (els.length - e)), H.set b ⟨v, true, ty, sz, els.take i ++ (els.drop e ++ List.replicate (e - i) zero)⟩) := by
  have hcur : curBlk H b v sz = some ⟨v, true, ty, sz, els⟩ := by simp [curBlk, hb]
  have hbl : b < H.length := (List.getElem?_eq_some_iff.1 hb).1
  obtain ⟨s1, hs1, _⟩ : ∃ s, evSlc H sz (.ref b v sz 0 els.length) (some i) (some e) (some els.length) = some s ∧ True := by
    simp only [evSlc, if_true, Option.some.injEq, Option.getD_some, hcur]
    by_cases h : e = els.length
    · rw [if_pos ⟨h, Nat.le_refl _⟩, if_pos (by omega)]; exact ⟨_, rfl, trivial⟩
    · rw [if_neg (by simp [h]), if_pos (by omega)]; exact ⟨_, rfl, trivial⟩
  have hs2 : evSlc H sz (.ref b v sz 0 els.length) none (some i) none = some (.ref b v sz 0 i) := by
    simp only [evSlc, if_true, Option.getD_some, Option.getD_none]
    rw [if_pos (by omega)]; simp
  have hs3 : evSlc H sz (.ref b v sz 0 els.length) (some e) none none = some (.ref b v sz e (els.length - e)) := by
    simp only [evSlc, if_true, Option.getD_some, Option.getD_none]
    rw [if_pos (by omega)]; simp
  have hne : ¬ (i : Int) = (e : Int) := by omega
  -- the append within the room there is
  have hap : appK ty sz bytes true H (some (.ref b v sz 0 i)) (some (.ref b v sz e (els.length - e))) = some (.ref b v sz 0 (i + (els.length - e)), H.set b ⟨v, true, ty, sz, els.take i ++ (els.drop e ++ els.drop (i + (els.length - e)))⟩) := by
    by_cases h : e = els.length
    · have h0 : els.length - e = 0 := by omega
      have hsame : H.set b ⟨v, true, ty, sz, els.take i ++ (els.drop e ++ els.drop (i + (els.length - e)))⟩ = H := by
        rw [h0, h, List.drop_length, List.nil_append, Nat.add_zero, List.take_append_drop]
        exact List.ext_getElem? fun j => by
          by_cases e : j = b
          · subst e; rw [List.getElem?_set_self hbl, hb]
          · rw [List.getElem?_set_ne (fun x => e x.symm)]
      rw [hsame, h0]
      simp [appK, srcRows, rowsOf, evApp, evLen]
    · obtain ⟨n, hn⟩ : ∃ n, els.length - e = n + 1 := ⟨els.length - e - 1, by omega⟩
      have hsrc : srcRows H (.ref b v sz e (n + 1)) = some (els.drop e) := by
        simp only [srcRows, rowsOf, hcur, Option.map_some]
        rw [List.take_of_length_le (by rw [List.length_drop]; omega)]
      have hd : els.drop e ≠ [] := fun x => by have := congrArg List.length x; simp at this; omega
      have hemp : (els.drop e).isEmpty = false := by cases h : els.drop e <;> simp_all
      have hhd : headOk sz (els.drop e) = true := by
        cases h : els.drop e with
        | nil => rfl
        | cons r rs => simp [headOk, hrow r (List.mem_of_mem_drop (by rw [h]; exact List.mem_cons_self ..))]
      have hl : (els.drop e).length = n + 1 := by rw [List.length_drop]; omega
      rw [hn]
      simp only [appK, hsrc, evApp, hemp, hhd, hcur, Bool.false_eq_true, if_false, Bool.true_eq_false, and_self, if_true, hl]
      rw [if_pos ⟨trivial, by omega⟩, List.append_assoc]
  have hl1 : (els.take i ++ (els.drop e ++ els.drop (i + (els.length - e)))).length = els.length := by simp; omega
  have hcur1 : curBlk (H.set b ⟨v, true, ty, sz, els.take i ++ (els.drop e ++ els.drop (i + (els.length - e)))⟩) b v sz = some ⟨v, true, ty, sz, els.take i ++ (els.drop e ++ els.drop (i + (els.length - e)))⟩ := by
    simp [curBlk, List.getElem?_set_self hbl]
  have hs4 : evSlc (H.set b ⟨v, true, ty, sz, els.take i ++ (els.drop e ++ els.drop (i + (els.length - e)))⟩) sz (.ref b v sz 0 (i + (els.length - e))) (some (i + (els.length - e))) (some els.length) none = some (.ref b v sz (i + (els.length - e)) (e - i)) := by
    simp only [evSlc, if_true, Option.getD_some, hcur1]
    rw [if_neg (by omega), if_pos (by omega), if_pos ⟨by omega, .inr trivial⟩]
    congr 2 <;> omega
  have hcl : evClear sz zero (H.set b ⟨v, true, ty, sz, els.take i ++ (els.drop e ++ els.drop (i + (els.length - e)))⟩) (.ref b v sz (i + (els.length - e)) (e - i)) = some (H.set b ⟨v, true, ty, sz, els.take i ++ (els.drop e ++ List.replicate (e - i) zero)⟩) := by
    obtain ⟨n, hn⟩ : ∃ n, e - i = n + 1 := ⟨e - i - 1, by omega⟩
    have ht : (els.take i ++ els.drop e).length = i + (els.length - e) := by simp; omega
    have hL : ∀ m, m = n + 1 → List.take (i + (els.length - e)) (els.take i ++ (els.drop e ++ els.drop (i + (els.length - e)))) ++ List.replicate m zero ++ List.drop (i + (els.length - e) + m) (els.take i ++ (els.drop e ++ els.drop (i + (els.length - e)))) = els.take i ++ (els.drop e ++ List.replicate m zero) := by
      intro m hm
      have hdn : List.drop (i + (els.length - e) + m) (els.take i ++ (els.drop e ++ els.drop (i + (els.length - e)))) = [] := List.drop_eq_nil_of_le (by simp; omega)
      rw [hdn, List.append_nil, ← List.append_assoc, List.take_left' ht, List.append_assoc]
    rw [hn]
    simp only [evClear, hcur1, if_true, Option.some.injEq, List.set_set, hL _ rfl]
  rw [cal_of hat]
  simp only [cDelete, fn_eq, hs1, hs2, hs3, hs4, hne, hap, hcl, hz, len_ref, evX, Int.reduceEq, Int.reduceLT, Int.reduceLE, Nat.reduceMul, Nat.reduceMod, evW, evR, Nat.reduceAdd, Nat.reduceLT, Nat.reduceLeDiff, reduceIte, Nat.reduceEqDiff, reduceCtorEq, argEnv, eq_self, if_true, if_false]
  rw [gc_no _ _ _ rfl]
/-- rows whose cells lead nowhere -/
def Plain (rows : List (List AV)) : Prop := ∀ r ∈ rows, ∀ a ∈ r, noRef0 a = true ∧ ∀ m H, fz H (m + 1) a = some (a, [])
theorem fz_rows {rows : List (List AV)} (h : Plain rows) (m : Nat) (H : Heap) : fzRows (fz H (m + 1)) rows = some (rows, []) := by
  have hc : ∀ (r : List AV), (∀ a ∈ r, ∀ m H, fz H (m + 1) a = some (a, [])) → fzCells (fz H (m + 1)) r = some (r, []) := by
    intro r
    induction r with
    | nil => intro _; rfl
    | cons a r ih => intro h; simp only [fzCells, h a (List.mem_cons_self ..), ih fun b hb => h b (List.mem_cons_of_mem _ hb), List.append_nil]
  induction rows with
  | nil => rfl
  | cons r l ih => simp only [fzRows, hc r fun a ha => (h r (List.mem_cons_self ..) a ha).2, ih fun r' hr' => h r' (List.mem_cons_of_mem _ hr'), List.append_nil]
theorem fz_blk {H : Heap} {b v sz len : Nat} {k : Blk} (hk : curBlk H b v sz = some k) {rows : List (List AV)} (hr : k.els.take len = rows) (hp : Plain rows) (m : Nat) : ∃ ids, fz H (m + 2) (.ref b v sz 0 len) = some (.lst rows, ids) ∧ ∀ x ∈ ids, x = b := by
  cases len with
  | zero => exact ⟨[], by rw [← hr]; rfl, by simp⟩
  | succ n =>
    refine ⟨[b], ?_, by simp⟩
    show (match curBlk H b v sz with
      | some k' => match fzRows (fz H (m + 1)) ((k'.els.drop 0).take (n + 1)) with
        | some (l, ids) => some (AV.lst l, b :: ids)
        | none => none
      | none => none) = _
    simp only [hk, List.drop_zero, hr, fz_rows hp]
/-- a slice and a number, frozen -/
theorem frz_two {H H1 : Heap} {rv : AV} {rows : List (List AV)} {ids : List Nat} (hf : fz H1 fzDepth rv = some (.lst rows, ids)) (hs : rv.scal = true) (ht : H1.take H.length = H) (hi : ∀ x ∈ ids, H.length ≤ x) (k : IntKind) (e : Int) :
    calK true H (some (.tup [rv, .int k e], H1)) = some (.tup [.lst rows, .int k e], H) := by
  refine calK_frz (ids := ids) ?_ rfl ht hi
  have h1 : fz1 H1 rv = some (.lst rows, ids) := by
    cases rv <;> first | exact hf | (simp [AV.scal] at hs)
  have h2 : fz1 H1 (.int k e) = some (.int k e, []) := rfl
  simp only [fzRes, fzCells, h1, h2, List.append_nil, Option.map_some]
theorem frz_three {H H1 : Heap} {rv : AV} {rows : List (List AV)} {ids : List Nat} (hf : fz H1 fzDepth rv = some (.lst rows, ids)) (hs : rv.scal = true) (ht : H1.take H.length = H) (hi : ∀ x ∈ ids, H.length ≤ x) (k k' : IntKind) (n e : Int) :
    calK true H (some (.tup [rv, .int k n, .int k' e], H1)) = some (.tup [.lst rows, .int k n, .int k' e], H) := by
  refine calK_frz (ids := ids) ?_ rfl ht hi
  have h1 : fz1 H1 rv = some (.lst rows, ids) := by
    cases rv <;> first | exact hf | (simp [AV.scal] at hs)
  have h2 : fz1 H1 (.int k n) = some (.int k n, []) := rfl
  have h3 : fz1 H1 (.int k' e) = some (.int k' e, []) := rfl
  simp only [fzRes, fzCells, h1, h2, h3, List.append_nil, Option.map_some]
theorem frz_one {H H1 : Heap} {rv : AV} {rows : List (List AV)} {ids : List Nat} (hf : fz H1 fzDepth rv = some (.lst rows, ids)) (hs : rv.scal = true) (ht : H1.take H.length = H) (hi : ∀ x ∈ ids, H.length ≤ x) :
    calK true H (some (rv, H1)) = some (.lst rows, H) := by
  refine calK_frz (ids := ids) ?_ rfl ht hi
  have h1 : fz1 H1 rv = some (.lst rows, ids) := by
    cases rv <;> first | exact hf | (simp [AV.scal] at hs)
  cases rv <;> first | exact h1 | (simp [AV.scal] at hs)
theorem fz_nils (H : Heap) : fz H fzDepth .nils = some (.lst [], []) := rfl
theorem fz_out' {n sz ty : Nat} {X : Heap} {rv : AV} {rows : List (List AV)} (h : Out n sz ty X rv rows) (H0 : Heap) (hn : n = H0.length) (hp : Plain rows) : ∃ ids, fz (H0 ++ X) fzDepth rv = some (.lst rows, ids) ∧ (∀ b ∈ ids, n ≤ b) ∧ rv.scal = true := by
  obtain ⟨ids, h1, h2⟩ := fz_out h H0 hn hp 6
  exact ⟨ids, h1, h2, by rcases h with ⟨rfl, rfl | rfl⟩ | ⟨_, j, v, rfl, _⟩ <;> rfl⟩
theorem Out.app {n sz ty : Nat} {X : Heap} {rv : AV} {rows : List (List AV)} (h : Out n sz ty X rv rows) (H0 : Heap) (hn : n = H0.length) (bytes : Nat) (a : AV) (src : List (List AV)) (hs : srcRows (H0 ++ X) a = some src) (hh : ∀ r ∈ src, r.length = sz)
    (hb : (rows.length + src.length) * bytes ≤ reach ∧ rows.length + src.length ≤ reach) : ∃ rv' X', appK ty sz bytes false (H0 ++ X) (some rv) (some a) = some (rv', H0 ++ X') ∧ rv'.isTup = false ∧ Out n sz ty X' rv' (rows ++ src) := by
  rw [out_app h bytes H0 hn a, hs]
  cases src with
  | nil => exact ⟨rv, X, rfl, out_tup h, by simpa using h⟩
  | cons r rs =>
    rw [apO_cons, if_pos ⟨hh r (List.mem_cons_self ..), by simpa using hb.1, by simpa using hb.2⟩]
    have := h.step (src := r :: rs) (by simp)
    exact ⟨_, _, rfl, out_tup this, this⟩
theorem Out.app2 {n sz ty : Nat} {X : Heap} {rv : AV} {rows : List (List AV)} (h : Out n sz ty X rv rows) (H0 : Heap) (hn : n = H0.length) (bytes : Nat) (a : AV) (src : List (List AV)) (hs : srcRows (H0 ++ X) a = some src) (hh : ∀ r ∈ src, r.length = sz) (hne : src ≠ [])
    (hb : (rows.length + src.length) * bytes ≤ reach ∧ rows.length + src.length ≤ reach) : ∃ rv' X', appK ty sz bytes false (H0 ++ X) (some rv) (some a) = some (rv', H0 ++ X') ∧ rv'.isTup = false ∧ Out n sz ty X' rv' (rows ++ src) ∧ Keeps n X rv X' ∧ Moved n X rv rv' := by
  rw [out_app h bytes H0 hn a, hs]
  obtain ⟨r, rs, rfl⟩ : ∃ r rs, src = r :: rs := by cases src with
    | nil => exact absurd rfl hne
    | cons r rs => exact ⟨r, rs, rfl⟩
  rw [apO_cons, if_pos ⟨hh r (List.mem_cons_self ..), by simpa using hb.1, by simpa using hb.2⟩]
  have hstep := h.step (src := r :: rs) (by simp)
  refine ⟨_, _, rfl, out_tup hstep, hstep, fun i k hi hne => ?_, ?_⟩
  · rcases h with ⟨_, rfl | rfl⟩ | ⟨_, j, v, rfl, h3⟩
    · simp only [oStep]; rw [List.getElem?_append_left (List.getElem?_eq_some_iff.1 hi).1, hi]
    · simp only [oStep]; rw [List.getElem?_append_left (List.getElem?_eq_some_iff.1 hi).1, hi]
    · simp only [oStep]
      have : n + j - n = j := by omega
      rw [this, List.getElem?_set_ne (fun e => hne (by simp [oblk, e])), hi]
  · rcases h with ⟨_, rfl | rfl⟩ | ⟨_, j, v, rfl, h3⟩
    · exact .inr ⟨X.length, Nat.le_refl _, rfl⟩
    · exact .inr ⟨X.length, Nat.le_refl _, rfl⟩
    · exact .inl ⟨by simp [oblk], rfl⟩
theorem Out.cells {n sz ty : Nat} {X : Heap} {rv : AV} {rows : List (List AV)} (h : Out n sz ty X rv rows) : rv.cells = [rv] := by
  rcases h with ⟨rfl, rfl | rfl⟩ | ⟨h1, j, v, rfl, h3⟩ <;> rfl
theorem Out.nil0 (n sz ty : Nat) (X : Heap) : Out n sz ty X .nil0 [] := .inl ⟨rfl, .inr rfl⟩
end Go.Proofs.YtbdpceigmnpoaaaGreatDoor.Ev
