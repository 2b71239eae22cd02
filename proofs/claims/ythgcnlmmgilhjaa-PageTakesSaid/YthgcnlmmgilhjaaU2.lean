/- Texts of ours, joined into one file; each begins with its own remark. -/
import Derived.Test.YthgcnlmmgilhjaaU1
import Derived.Test.YthgcnlmmgilhjaaCodeB
import Derived.Test.YthgcnlmmgilhjaaIb
/- page: Give, of the document. -/
set_option linter.unusedSimpArgs false
set_option linter.unusedVariables false
namespace Go.Proofs.Ythgcnlmmgilhjaa.Code
open Go.Proofs.Ythgcnlmmgilhjaa.Ev

def ft (a e : Nat) (s : Nat × Nat) (x : Pl) : Nat × Nat := if x.1 + x.2 = a then (x.1, s.2) else if x.1 = e then (s.1, x.1 + x.2) else s
def fts (a e : Nat) (l : List Pl) : Nat × Nat := l.foldl (ft a e) (a, e)
def nd (f t : Nat) (s : List Pl × Bool) (x : Pl) : List Pl × Bool :=
  if x.1 < f ∨ t ≤ x.1 then ((if s.2 = false ∧ f ≤ x.1 then (s.1 ++ [(f, t - f)], true) else s).1 ++ [x], (if s.2 = false ∧ f ≤ x.1 then (s.1 ++ [(f, t - f)], true) else s).2) else if s.2 = false ∧ f ≤ x.1 then (s.1 ++ [(f, t - f)], true) else s
def nds (f t : Nat) (l : List Pl) : List Pl × Bool := l.foldl (nd f t) ([], false)
theorem fts_take (a e : Nat) {l : List Pl} {i : Nat} {x : Pl} (hx : l[i]? = some x) : fts a e (l.take (i + 1)) = ft a e (fts a e (l.take i)) x := by
  unfold fts
  rw [List.take_add_one, hx, Option.toList_some, List.foldl_append]; rfl
theorem nds_take (f t : Nat) {l : List Pl} {i : Nat} {x : Pl} (hx : l[i]? = some x) : nds f t (l.take (i + 1)) = nd f t (nds f t (l.take i)) x := by
  unfold nds
  rw [List.take_add_one, hx, Option.toList_some, List.foldl_append]; rfl
theorem ft_keep {a e : Nat} : ∀ {l : List Pl} (s : Nat × Nat), (∀ x ∈ l, x.1 + x.2 ≠ a ∧ x.1 ≠ e) → l.foldl (ft a e) s = s
  | [], s, _ => rfl
  | x :: l, s, h => by
    rw [List.foldl_cons, show ft a e s x = s by unfold ft; rw [if_neg (h x (List.mem_cons_self ..)).1, if_neg (h x (List.mem_cons_self ..)).2]]
    exact ft_keep s fun y hy => h y (List.mem_cons_of_mem _ hy)
theorem nd_lo {f t : Nat} : ∀ {l : List Pl} (s : List Pl × Bool), (∀ x ∈ l, x.1 < f) → l.foldl (nd f t) s = (s.1 ++ l, s.2)
  | [], s, _ => by simp
  | x :: l, s, h => by
    have hx := h x (List.mem_cons_self ..)
    rw [List.foldl_cons, show nd f t s x = (s.1 ++ [x], s.2) by unfold nd; rw [if_pos (.inl hx), if_neg (by omega)], nd_lo _ fun y hy => h y (List.mem_cons_of_mem _ hy)]
    simp
theorem nd_mid {f t : Nat} : ∀ {l : List Pl} (n : List Pl), (∀ x ∈ l, f ≤ x.1 ∧ x.1 < t) → l.foldl (nd f t) (n, true) = (n, true)
  | [], _, _ => rfl
  | x :: l, n, h => by
    have hx := h x (List.mem_cons_self ..)
    rw [List.foldl_cons, show nd f t (n, true) x = (n, true) by unfold nd; rw [if_neg (by omega), if_neg (by simp)]]
    exact nd_mid n fun y hy => h y (List.mem_cons_of_mem _ hy)
theorem nd_hi {f t : Nat} : ∀ {l : List Pl} (n : List Pl), (∀ x ∈ l, t ≤ x.1) → l.foldl (nd f t) (n, true) = (n ++ l, true)
  | [], n, _ => by simp
  | x :: l, n, h => by
    have hx := h x (List.mem_cons_self ..)
    rw [List.foldl_cons, show nd f t (n, true) x = (n ++ [x], true) by unfold nd; rw [if_pos (.inr hx), if_neg (by simp)], nd_hi _ fun y hy => h y (List.mem_cons_of_mem _ hy)]
    simp
theorem nds_len (f t : Nat) (l : List Pl) : (nds f t l).1.length ≤ 2 * l.length := by
  have key : ∀ (l : List Pl) (s : List Pl × Bool), (l.foldl (nd f t) s).1.length ≤ s.1.length + 2 * l.length := by
    intro l
    induction l with
    | nil => intro s; simp
    | cons x l ih =>
      intro s
      rw [List.foldl_cons]
      have h1 := ih (nd f t s x)
      have h2 : (nd f t s x).1.length ≤ s.1.length + 2 := by
        unfold nd
        split <;> split <;> simp
      simp only [List.length_cons]
      omega
  have := key l ([], false)
  simpa [nds] using this
def ndF (f t : Nat) (s : List Pl × Bool) : List Pl := if s.2 = true then s.1 else s.1 ++ [(f, t - f)]
variable {l : List Pl} {a e : Nat} {A : List Pl} {pv nv : Option Pl} {C : List Pl}
theorem GivAt.fts (g : GivAt l a e A pv nv C) : fts a e l = (gFrom pv a, gTo nv e) := by
  have h1 := g.from_le
  have h2 := g.to_ge
  have h3 := g.lt
  unfold Code.fts
  rw [g.eq, List.foldl_append, List.foldl_append, List.foldl_append]
  rw [ft_keep (l := A) _ fun x hx => by have := g.lo x hx; omega]
  have e1 : pv.toList.foldl (ft a e) (a, e) = (gFrom pv a, e) := by
    cases h : pv with
    | none => rfl
    | some x =>
      simp only [Option.toList_some, List.foldl_cons, List.foldl_nil, ft, gFrom]
      rw [if_pos (g.pvE x h)]
  have e2 : nv.toList.foldl (ft a e) (gFrom pv a, e) = (gFrom pv a, gTo nv e) := by
    cases h : nv with
    | none => rfl
    | some y =>
      have := g.nvE y h
      simp only [Option.toList_some, List.foldl_cons, List.foldl_nil, ft, gTo]
      rw [if_neg (by omega), if_pos this]
  rw [e1, e2, ft_keep (l := C) _ fun x hx => by have := g.hi x hx; omega]
theorem GivAt.nds (g : GivAt l a e A pv nv C) : ndF (gFrom pv a) (gTo nv e) (nds (gFrom pv a) (gTo nv e) l) = gL A pv nv C a e := by
  have h1 := g.from_le
  have h2 := g.to_ge
  have h3 := g.lt
  unfold Code.nds gL
  have hmid : ∀ x ∈ pv.toList ++ nv.toList, gFrom pv a ≤ x.1 ∧ x.1 < gTo nv e := fun x hx => by
    simp only [List.mem_append, Option.mem_toList] at hx
    rcases hx with hx | hx
    · have := g.pvE x hx
      have := (okL_mem g.okl (g.pm hx)).two
      simp only [hx, gFrom] at h1 ⊢
      omega
    · have := g.nvE x hx
      have := (okL_mem g.okl (g.nm hx)).two
      simp only [hx, gTo] at h2 ⊢
      omega
  rw [g.eq, ← List.append_assoc pv.toList, List.foldl_append, List.foldl_append]
  rw [nd_lo (l := A) _ fun x hx => by have := g.lo x hx; omega, List.nil_append]
  cases hM : pv.toList ++ nv.toList with
  | nil =>
    rw [List.foldl_nil]
    cases hC : C with
    | nil => rfl
    | cons y C' =>
      have hy := g.hi y (by rw [hC]; exact List.mem_cons_self ..)
      rw [List.foldl_cons, show nd (gFrom pv a) (gTo nv e) (A, false) y = (A ++ [(gFrom pv a, gTo nv e - gFrom pv a)] ++ [y], true) by unfold nd; rw [if_pos (.inr (by omega)), if_pos ⟨rfl, by omega⟩]]
      rw [nd_hi (l := C') _ fun x hx => by have := g.hi x (by rw [hC]; exact List.mem_cons_of_mem _ hx); omega]
      simp [ndF]
  | cons x M =>
    rw [hM] at hmid
    have hx := hmid x (List.mem_cons_self ..)
    rw [List.foldl_cons, show nd (gFrom pv a) (gTo nv e) (A, false) x = (A ++ [(gFrom pv a, gTo nv e - gFrom pv a)], true) by unfold nd; rw [if_neg (by omega), if_pos ⟨rfl, hx.1⟩]]
    rw [nd_mid _ fun y hy => hmid y (List.mem_cons_of_mem _ hy), nd_hi (l := C) _ fun x hx => by have := g.hi x hx; omega]
    simp [ndF]
theorem l31_0 (H : Heap) (p : AV) (l : List Pl) (hok : okL 2 l) (a e : Nat) (st : St)
    (hE : keepEnv st.1 [0, 1, 8, 10, 11, 12, 13, 14] = [(0, p), (1, .int .i64 (a : Int)), (8, ePl l), (10, .int .i64 (e : Int)), (11, .int .i64 (a : Int)), (12, .int .i64 (e : Int)), (13, .nils), (14, .int .i64 0)]) (hH : st.2 = H)
    (z : Option (CX × St)) (hz : itLim (evCode (evC cprog) itLim c31_l0) st = z) : ∃ T, z = some (.exit 1, T, H) ∧ keepEnv T [0, 1, 8, 10, 11, 12, 13] = [(0, p), (1, .int .i64 (a : Int)), (8, ePl l), (10, .int .i64 (e : Int)), (11, .int .i64 ((fts a e l).1 : Int)), (12, .int .i64 ((fts a e l).2 : Int)), (13, .nils)] := by
  have hlen := (sPl [] l).len
  simp only [List.length_map] at hlen
  have hll := okL_len hok
  have L := loop_rule (σ := Nat) (m := [0, 1, 8, 10, 11, 12, 13, 14]) (env := fun i => [(0, p), (1, .int .i64 (a : Int)), (8, ePl l), (10, .int .i64 (e : Int)), (11, .int .i64 ((fts a e (l.take i)).1 : Int)), (12, .int .i64 ((fts a e (l.take i)).2 : Int)), (13, .nils), (14, .int .i64 (i : Int))]) (hp := fun _ => H)
    (P := fun _ r => ∃ T, r = (.exit 1, T, H) ∧ keepEnv T [0, 1, 8, 10, 11, 12, 13] = [(0, p), (1, .int .i64 (a : Int)), (8, ePl l), (10, .int .i64 (e : Int)), (11, .int .i64 ((fts a e l).1 : Int)), (12, .int .i64 ((fts a e l).2 : Int)), (13, .nils)])
    (mu := fun i => l.length - i) (I := fun i => i ≤ l.length) (evCode (evC cprog) itLim c31_l0) ?_ 0 st (Nat.zero_le _) hE hH z hz
  · obtain ⟨_, rfl, T, rfl, h⟩ := L
    exact ⟨T, rfl, h⟩
  · intro i hi E hE
    by_cases hlt : i < l.length
    · obtain ⟨x, hx⟩ : ∃ x, l[i]? = some x := ⟨_, List.getElem?_eq_getElem hlt⟩
      have hii : (i : Int) < (l.length : Int) := by omega
      have hxo := okL_at hok hx
      have hfit := hxo.fit
      have ha := fAt l i x hx
      have hws := wrapA1 (a := i) (by omega)
      have hwx := wrapA (a := x.1) (b := x.2) (by omega) (by omega)
      have hst := fts_take a e hx
      generalize fts a e (l.take i) = s at *
      unfold ft at hst
      by_cases c1 : x.1 + x.2 = a
      · have c1' : ((x.1 + x.2 : Nat) : Int) = (a : Int) := by omega
        rw [if_pos c1] at hst
        simp only [c31_l0, hE, hii, hlen, ha, rPl, hwx, c1', hws, evX, Int.reduceEq, Int.reduceLT, Int.reduceLE, Nat.reduceMul, Nat.reduceMod, evW, fn_eq, evR, Nat.reduceAdd, Nat.reduceLT, Nat.reduceLeDiff, reduceIte, Nat.reduceEqDiff, reduceCtorEq, argEnv, eq_self, if_true, if_false]
        repeat' ((first | rw [guardK_cases] | rw [condK_bool] | rw [guardD_cases]); split <;> simp only [c31_l0, hE, hii, hlen, ha, rPl, hwx, c1', hws, evX, Int.reduceEq, Int.reduceLT, Int.reduceLE, Nat.reduceMul, Nat.reduceMod, evW, evR, Nat.reduceAdd, Nat.reduceLT, Nat.reduceLeDiff, reduceIte, Nat.reduceEqDiff, reduceCtorEq, argEnv, eq_self, if_true, if_false, *])
        exact q_next (i + 1) (by simp only [hst]; rfl) rfl (by omega) (by omega) fun r h => h
      · have c1' : ¬ ((x.1 + x.2 : Nat) : Int) = (a : Int) := by omega
        rw [if_neg c1] at hst
        by_cases c2 : x.1 = e
        · have c2' : ((x.1 : Int) = (e : Int)) = True := eq_true (by omega)
          rw [if_pos c2] at hst
          clear c2
          simp only [c31_l0, hE, hii, hlen, ha, rPl, hwx, c1', c2', hws, evX, Int.reduceEq, Int.reduceLT, Int.reduceLE, Nat.reduceMul, Nat.reduceMod, evW, fn_eq, evR, Nat.reduceAdd, Nat.reduceLT, Nat.reduceLeDiff, reduceIte, Nat.reduceEqDiff, reduceCtorEq, argEnv, eq_self, if_true, if_false]
          repeat' ((first | rw [guardK_cases] | rw [condK_bool] | rw [guardD_cases]); split <;> simp only [c31_l0, hE, hii, hlen, ha, rPl, hwx, c1', c2', hws, evX, Int.reduceEq, Int.reduceLT, Int.reduceLE, Nat.reduceMul, Nat.reduceMod, evW, evR, Nat.reduceAdd, Nat.reduceLT, Nat.reduceLeDiff, reduceIte, Nat.reduceEqDiff, reduceCtorEq, argEnv, eq_self, if_true, if_false, *])
          exact q_next (i + 1) (by simp only [hst]; rfl) rfl (by omega) (by omega) fun r h => h
        · have c2' : ¬ (x.1 : Int) = (e : Int) := by omega
          rw [if_neg c2] at hst
          simp only [c31_l0, hE, hii, hlen, ha, rPl, hwx, c1', c2', hws, evX, Int.reduceEq, Int.reduceLT, Int.reduceLE, Nat.reduceMul, Nat.reduceMod, evW, fn_eq, evR, Nat.reduceAdd, Nat.reduceLT, Nat.reduceLeDiff, reduceIte, Nat.reduceEqDiff, reduceCtorEq, argEnv, eq_self, if_true, if_false]
          repeat' ((first | rw [guardK_cases] | rw [condK_bool] | rw [guardD_cases]); split <;> simp only [c31_l0, hE, hii, hlen, ha, rPl, hwx, c1', c2', hws, evX, Int.reduceEq, Int.reduceLT, Int.reduceLE, Nat.reduceMul, Nat.reduceMod, evW, evR, Nat.reduceAdd, Nat.reduceLT, Nat.reduceLeDiff, reduceIte, Nat.reduceEqDiff, reduceCtorEq, argEnv, eq_self, if_true, if_false, *])
          exact q_next (i + 1) (by simp only [hst]; rfl) rfl (by omega) (by omega) fun r h => h
    · have hii : ¬ (i : Int) < (l.length : Int) := by omega
      have hil : i = l.length := by omega
      subst hil
      rw [List.take_length] at hE
      simp only [c31_l0, hE, hii, hlen, evX, Int.reduceEq, Int.reduceLT, Int.reduceLE, Nat.reduceMul, Nat.reduceMod, evW, fn_eq, evR, Nat.reduceAdd, Nat.reduceLT, Nat.reduceLeDiff, reduceIte, Nat.reduceEqDiff, reduceCtorEq, argEnv, eq_self, if_true, if_false]
      repeat' ((first | rw [guardK_cases] | rw [condK_bool] | rw [guardD_cases]); split <;> simp only [c31_l0, hE, hii, hlen, evX, Int.reduceEq, Int.reduceLT, Int.reduceLE, Nat.reduceMul, Nat.reduceMod, evW, evR, Nat.reduceAdd, Nat.reduceLT, Nat.reduceLeDiff, reduceIte, Nat.reduceEqDiff, reduceCtorEq, argEnv, eq_self, if_true, if_false, *])
      exact q_exit ⟨_, rfl, by rfl⟩
theorem l31_1 (H : Heap) (p : AV) (l : List Pl) (hok : okL 2 l) (a e f t : Nat) (hft : f ≤ t) (ht : t ≤ 128) (st : St)
    (hE : keepEnv st.1 [0, 1, 8, 10, 11, 12, 13, 15, 16] = [(0, p), (1, .int .i64 (a : Int)), (8, ePl l), (10, .int .i64 (e : Int)), (11, .int .i64 (f : Int)), (12, .int .i64 (t : Int)), (13, .nils), (15, .bool false), (16, .int .i64 0)]) (hH : st.2 = H)
    (z : Option (CX × St)) (hz : itLim (evCode (evC cprog) itLim c31_l1) st = z) : ∃ T X rv, z = some (.exit 4, T, H ++ X) ∧ keepEnv T [0, 1, 10, 11, 12, 13, 15] = [(0, p), (1, .int .i64 (a : Int)), (10, .int .i64 (e : Int)), (11, .int .i64 (f : Int)), (12, .int .i64 (t : Int)), (13, rv), (15, .bool (nds f t l).2)] ∧ Out H.length 2 35 X rv ((nds f t l).1.map rPl) := by
  have hlen := (sPl [] l).len
  simp only [List.length_map] at hlen
  have hll := okL_len hok
  have L := loop_rule (σ := Nat × Heap × AV) (m := [0, 1, 8, 10, 11, 12, 13, 15, 16]) (env := fun i => [(0, p), (1, .int .i64 (a : Int)), (8, ePl l), (10, .int .i64 (e : Int)), (11, .int .i64 (f : Int)), (12, .int .i64 (t : Int)), (13, i.2.2), (15, .bool (nds f t (l.take i.1)).2), (16, .int .i64 (i.1 : Int))]) (hp := fun i => H ++ i.2.1)
    (P := fun _ r => ∃ T X rv, r = (.exit 4, T, H ++ X) ∧ keepEnv T [0, 1, 10, 11, 12, 13, 15] = [(0, p), (1, .int .i64 (a : Int)), (10, .int .i64 (e : Int)), (11, .int .i64 (f : Int)), (12, .int .i64 (t : Int)), (13, rv), (15, .bool (nds f t l).2)] ∧ Out H.length 2 35 X rv ((nds f t l).1.map rPl))
    (mu := fun i => l.length - i.1) (I := fun i => i.1 ≤ l.length ∧ Out H.length 2 35 i.2.1 i.2.2 ((nds f t (l.take i.1)).1.map rPl)) (evCode (evC cprog) itLim c31_l1) ?_ (0, [], .nils) st ⟨Nat.zero_le _, .nils ..⟩ hE (by simpa using hH) z hz
  · obtain ⟨r, rfl, T, X, rv, rfl, h⟩ := L
    exact ⟨T, X, rv, rfl, h⟩
  · intro ⟨i, X, rv⟩ ⟨hi, hO⟩ E hE
    simp only at hi hO hE ⊢
    by_cases hlt : i < l.length
    · obtain ⟨x, hx⟩ : ∃ x, l[i]? = some x := ⟨_, List.getElem?_eq_getElem hlt⟩
      have hii : (i : Int) < (l.length : Int) := by omega
      have hxo := okL_at hok hx
      have hfit := hxo.fit
      have ha := fAt l i x hx
      have hws := wrapA1 (a := i) (by omega)
      have hst := nds_take f t hx
      have hnl := nds_len f t (l.take i)
      have hld : ∀ H, loadK true 2 H (some (.fptr (rPl x))) = some (.agg (rPl x)) := fun _ => rfl
      have hwt : IntKind.i64.wrap ((t : Int) - (f : Int)) = ((t - f : Nat) : Int) := by rw [wrap_i64 (by omega) (by omega)]; omega
      generalize nds f t (l.take i) = s at *
      obtain ⟨n, d⟩ := s
      simp only [List.length_take] at hnl
      simp only at hO
      unfold nd at hst
      simp only at hst
      simp only [rPl] at hld ha
      have hb : ∀ k, k ≤ 1 → (n.map rPl).length + k + 1 ≤ 400 := by simp; omega
      have A1 : ∀ (rows : List (List AV)) (X : Heap) (rv : AV) (y : Pl), rows.length ≤ 300 → Out H.length 2 35 X rv rows → ∃ rv' X', appK 35 2 16 false (H ++ (X ++ [⟨0, true, 35, 2, [[.int .i64 (y.1 : Int), .int .i64 (y.2 : Int)]]⟩])) (some rv) (some (.ref (H.length + X.length) 0 2 0 1)) = some (rv', H ++ X') ∧ rv'.isTup = false ∧ Out H.length 2 35 X' rv' (rows ++ [rPl y]) := fun rows X rv y hr hO =>
        (hO.more [⟨0, true, 35, 2, [rPl y]⟩]).app H rfl 16 _ [rPl y] (by simp [srcRows, rowsOf, curBlk, ← List.append_assoc]) (by simp [rPl]) (by simp [reach]; omega)
      by_cases c1 : x.1 < f
      · have c1' : (x.1 : Int) < (f : Int) := by omega
        have c1n : ¬ (f : Int) ≤ (x.1 : Int) := by omega
        rw [if_pos (.inl c1), if_neg (by omega)] at hst
        obtain ⟨rv1, X1, a1, t1, O1⟩ := A1 _ X rv x (by simp; omega) hO
        have hnx : n.map rPl ++ [rPl x] = (n ++ [x]).map rPl := by simp
        rw [hnx] at O1
        cases d with
        | true =>
          simp only [c31_l1, hE, hii, hlen, ha, hld, c1', hws, a1, t1, evX, Int.reduceEq, Int.reduceLT, Int.reduceLE, Nat.reduceMul, Nat.reduceMod, evW, fn_eq, evR, Nat.reduceAdd, Nat.reduceLT, Nat.reduceLeDiff, reduceIte, Nat.reduceEqDiff, reduceCtorEq, argEnv, eq_self, if_true, if_false]
          repeat' ((first | rw [guardK_cases] | rw [condK_bool] | rw [guardD_cases]); split <;> simp only [c31_l1, hE, hii, hlen, ha, hld, c1', hws, a1, t1, evX, Int.reduceEq, Int.reduceLT, Int.reduceLE, Nat.reduceMul, Nat.reduceMod, evW, evR, Nat.reduceAdd, Nat.reduceLT, Nat.reduceLeDiff, reduceIte, Nat.reduceEqDiff, reduceCtorEq, argEnv, eq_self, if_true, if_false, *])
          exact q_next (i + 1, X1, rv1) (by simp only [hst]; rfl) rfl ⟨by omega, by simp only [hst]; exact O1⟩ (by simp only; omega) fun r h => h
        | false =>
          simp only [c31_l1, hE, hii, hlen, ha, hld, c1', c1n, hws, a1, t1, evX, Int.reduceEq, Int.reduceLT, Int.reduceLE, Nat.reduceMul, Nat.reduceMod, evW, fn_eq, evR, Nat.reduceAdd, Nat.reduceLT, Nat.reduceLeDiff, reduceIte, Nat.reduceEqDiff, reduceCtorEq, argEnv, eq_self, if_true, if_false]
          repeat' ((first | rw [guardK_cases] | rw [condK_bool] | rw [guardD_cases]); split <;> simp only [c31_l1, hE, hii, hlen, ha, hld, c1', c1n, hws, a1, t1, evX, Int.reduceEq, Int.reduceLT, Int.reduceLE, Nat.reduceMul, Nat.reduceMod, evW, evR, Nat.reduceAdd, Nat.reduceLT, Nat.reduceLeDiff, reduceIte, Nat.reduceEqDiff, reduceCtorEq, argEnv, eq_self, if_true, if_false, *])
          exact q_next (i + 1, X1, rv1) (by simp only [hst]; rfl) rfl ⟨by omega, by simp only [hst]; exact O1⟩ (by simp only; omega) fun r h => h
      · have c1' : ¬ (x.1 : Int) < (f : Int) := by omega
        have c1n : (f : Int) ≤ (x.1 : Int) := by omega
        cases d with
        | true =>
          by_cases c2 : t ≤ x.1
          · have c2' : (t : Int) ≤ (x.1 : Int) := by omega
            rw [if_pos (.inr c2), if_neg (by simp)] at hst
            obtain ⟨rv1, X1, a1, t1, O1⟩ := A1 _ X rv x (by simp; omega) hO
            have hnx : n.map rPl ++ [rPl x] = (n ++ [x]).map rPl := by simp
            rw [hnx] at O1
            simp only [c31_l1, hE, hii, hlen, ha, hld, c1', c2', hws, a1, t1, evX, Int.reduceEq, Int.reduceLT, Int.reduceLE, Nat.reduceMul, Nat.reduceMod, evW, fn_eq, evR, Nat.reduceAdd, Nat.reduceLT, Nat.reduceLeDiff, reduceIte, Nat.reduceEqDiff, reduceCtorEq, argEnv, eq_self, if_true, if_false]
            repeat' ((first | rw [guardK_cases] | rw [condK_bool] | rw [guardD_cases]); split <;> simp only [c31_l1, hE, hii, hlen, ha, hld, c1', c2', hws, a1, t1, evX, Int.reduceEq, Int.reduceLT, Int.reduceLE, Nat.reduceMul, Nat.reduceMod, evW, evR, Nat.reduceAdd, Nat.reduceLT, Nat.reduceLeDiff, reduceIte, Nat.reduceEqDiff, reduceCtorEq, argEnv, eq_self, if_true, if_false, *])
            exact q_next (i + 1, X1, rv1) (by simp only [hst]; rfl) rfl ⟨by omega, by simp only [hst]; exact O1⟩ (by simp only; omega) fun r h => h
          · have c2' : ¬ (t : Int) ≤ (x.1 : Int) := by omega
            rw [if_neg (by omega), if_neg (by simp)] at hst
            simp only [c31_l1, hE, hii, hlen, ha, hld, c1', c2', hws, evX, Int.reduceEq, Int.reduceLT, Int.reduceLE, Nat.reduceMul, Nat.reduceMod, evW, fn_eq, evR, Nat.reduceAdd, Nat.reduceLT, Nat.reduceLeDiff, reduceIte, Nat.reduceEqDiff, reduceCtorEq, argEnv, eq_self, if_true, if_false]
            repeat' ((first | rw [guardK_cases] | rw [condK_bool] | rw [guardD_cases]); split <;> simp only [c31_l1, hE, hii, hlen, ha, hld, c1', c2', hws, evX, Int.reduceEq, Int.reduceLT, Int.reduceLE, Nat.reduceMul, Nat.reduceMod, evW, evR, Nat.reduceAdd, Nat.reduceLT, Nat.reduceLeDiff, reduceIte, Nat.reduceEqDiff, reduceCtorEq, argEnv, eq_self, if_true, if_false, *])
            exact q_next (i + 1, X, rv) (by simp only [hst]; rfl) rfl ⟨by omega, by simp only [hst]; exact hO⟩ (by simp only; omega) fun r h => h
        | false =>
          obtain ⟨rv1, X1, a1, t1, O1⟩ := A1 _ X rv (f, t - f) (by simp; omega) hO
          have hnx : n.map rPl ++ [rPl (f, t - f)] = (n ++ [(f, t - f)]).map rPl := by simp
          rw [hnx] at O1
          simp only at a1
          by_cases c2 : t ≤ x.1
          · have c2' : (t : Int) ≤ (x.1 : Int) := by omega
            rw [if_pos (.inr c2), if_pos ⟨rfl, by omega⟩] at hst
            obtain ⟨rv2, X2, a2, t2, O2⟩ := A1 _ X1 rv1 x (by simp; omega) O1
            have hnx2 : (n ++ [(f, t - f)]).map rPl ++ [rPl x] = (n ++ [(f, t - f)] ++ [x]).map rPl := by simp
            rw [hnx2] at O2
            simp only [c31_l1, hE, hii, hlen, ha, hld, c1', c1n, c2', hwt, hws, a1, t1, a2, t2, evX, Int.reduceEq, Int.reduceLT, Int.reduceLE, Nat.reduceMul, Nat.reduceMod, evW, fn_eq, evR, Nat.reduceAdd, Nat.reduceLT, Nat.reduceLeDiff, reduceIte, Nat.reduceEqDiff, reduceCtorEq, argEnv, eq_self, if_true, if_false]
            repeat' ((first | rw [guardK_cases] | rw [condK_bool] | rw [guardD_cases]); split <;> simp only [c31_l1, hE, hii, hlen, ha, hld, c1', c1n, c2', hwt, hws, a1, t1, a2, t2, evX, Int.reduceEq, Int.reduceLT, Int.reduceLE, Nat.reduceMul, Nat.reduceMod, evW, evR, Nat.reduceAdd, Nat.reduceLT, Nat.reduceLeDiff, reduceIte, Nat.reduceEqDiff, reduceCtorEq, argEnv, eq_self, if_true, if_false, *])
            exact q_next (i + 1, X2, rv2) (by simp only [hst]; rfl) rfl ⟨by omega, by simp only [hst]; exact O2⟩ (by simp only; omega) fun r h => h
          · have c2' : ¬ (t : Int) ≤ (x.1 : Int) := by omega
            rw [if_neg (by omega), if_pos ⟨rfl, by omega⟩] at hst
            simp only [c31_l1, hE, hii, hlen, ha, hld, c1', c1n, c2', hwt, hws, a1, t1, evX, Int.reduceEq, Int.reduceLT, Int.reduceLE, Nat.reduceMul, Nat.reduceMod, evW, fn_eq, evR, Nat.reduceAdd, Nat.reduceLT, Nat.reduceLeDiff, reduceIte, Nat.reduceEqDiff, reduceCtorEq, argEnv, eq_self, if_true, if_false]
            repeat' ((first | rw [guardK_cases] | rw [condK_bool] | rw [guardD_cases]); split <;> simp only [c31_l1, hE, hii, hlen, ha, hld, c1', c1n, c2', hwt, hws, a1, t1, evX, Int.reduceEq, Int.reduceLT, Int.reduceLE, Nat.reduceMul, Nat.reduceMod, evW, evR, Nat.reduceAdd, Nat.reduceLT, Nat.reduceLeDiff, reduceIte, Nat.reduceEqDiff, reduceCtorEq, argEnv, eq_self, if_true, if_false, *])
            exact q_next (i + 1, X1, rv1) (by simp only [hst]; rfl) rfl ⟨by omega, by simp only [hst]; exact O1⟩ (by simp only; omega) fun r h => h
    · have hii : ¬ (i : Int) < (l.length : Int) := by omega
      have hil : i = l.length := by omega
      subst hil
      rw [List.take_length] at hE hO
      simp only [c31_l1, hE, hii, hlen, evX, Int.reduceEq, Int.reduceLT, Int.reduceLE, Nat.reduceMul, Nat.reduceMod, evW, fn_eq, evR, Nat.reduceAdd, Nat.reduceLT, Nat.reduceLeDiff, reduceIte, Nat.reduceEqDiff, reduceCtorEq, argEnv, eq_self, if_true, if_false]
      repeat' ((first | rw [guardK_cases] | rw [condK_bool] | rw [guardD_cases]); split <;> simp only [c31_l1, hE, hii, hlen, evX, Int.reduceEq, Int.reduceLT, Int.reduceLE, Nat.reduceMul, Nat.reduceMod, evW, evR, Nat.reduceAdd, Nat.reduceLT, Nat.reduceLeDiff, reduceIte, Nat.reduceEqDiff, reduceCtorEq, argEnv, eq_self, if_true, if_false, *])
      exact q_exit ⟨_, X, rv, rfl, by rfl, hO⟩
end Go.Proofs.Ythgcnlmmgilhjaa.Code

/- page: Give, of the document: both givings are one; the law PageTakes. -/
set_option linter.unusedSimpArgs false
set_option linter.unusedVariables false
namespace Go.Proofs.Ythgcnlmmgilhjaa.Code
open Go.Proofs.Ythgcnlmmgilhjaa.Ev

theorem f31 (p : List Nat) (hp : Page p) (a n : Int) (H : Heap) : cal (evC cprog) true 31 [eB p, .int .i64 a, .int .i64 n] H = some (.tup [eB (giveP p a n).1, .int .i64 (giveP p a n).2], H) := by
  rw [cal_of at31]
  have h33 := f33 p hp
  cases hok : (plAns p).2 with
  | false =>
    rw [hok] at h33
    unfold giveP
    rw [if_pos hok]
    simp only [c31, h33, evX, Int.reduceEq, Int.reduceLT, Int.reduceLE, Nat.reduceMul, Nat.reduceMod, evW, fn_eq, evR, Nat.reduceAdd, Nat.reduceLT, Nat.reduceLeDiff, reduceIte, Nat.reduceEqDiff, reduceCtorEq, argEnv, eq_self, if_true, if_false]
    repeat' ((first | rw [guardK_cases] | rw [condK_bool] | rw [guardD_cases]); split <;> simp only [c31, h33, evX, Int.reduceEq, Int.reduceLT, Int.reduceLE, Nat.reduceMul, Nat.reduceMod, evW, evR, Nat.reduceAdd, Nat.reduceLT, Nat.reduceLeDiff, reduceIte, Nat.reduceEqDiff, reduceCtorEq, argEnv, eq_self, if_true, if_false, *])
    exact frz_two (fz_nils _) rfl (by simp) (by simp) _ _
  | true =>
    rw [hok] at h33
    have hlen := ans_128 p hok
    unfold giveP
    rw [if_neg (by rw [hok]; simp)]
    by_cases c1 : n < 1
    · rw [if_pos (giveOk_no fun h => by have := h.2.2.1; omega)]
      simp only [c31, h33, c1, evX, Int.reduceEq, Int.reduceLT, Int.reduceLE, Nat.reduceMul, Nat.reduceMod, evW, fn_eq, evR, Nat.reduceAdd, Nat.reduceLT, Nat.reduceLeDiff, reduceIte, Nat.reduceEqDiff, reduceCtorEq, argEnv, eq_self, if_true, if_false]
      repeat' ((first | rw [guardK_cases] | rw [condK_bool] | rw [guardD_cases]); split <;> simp only [c31, h33, c1, evX, Int.reduceEq, Int.reduceLT, Int.reduceLE, Nat.reduceMul, Nat.reduceMod, evW, evR, Nat.reduceAdd, Nat.reduceLT, Nat.reduceLeDiff, reduceIte, Nat.reduceEqDiff, reduceCtorEq, argEnv, eq_self, if_true, if_false, *])
      exact frz_two (fz_nils _) rfl (by simp) (by simp) _ _
    by_cases c2 : 128 < n
    · rw [if_pos (giveOk_no fun h => by have := h.2.2.2; have := h.1; omega)]
      simp only [c31, h33, c1, c2, evX, Int.reduceEq, Int.reduceLT, Int.reduceLE, Nat.reduceMul, Nat.reduceMod, evW, fn_eq, evR, Nat.reduceAdd, Nat.reduceLT, Nat.reduceLeDiff, reduceIte, Nat.reduceEqDiff, reduceCtorEq, argEnv, eq_self, if_true, if_false]
      repeat' ((first | rw [guardK_cases] | rw [condK_bool] | rw [guardD_cases]); split <;> simp only [c31, h33, c1, c2, evX, Int.reduceEq, Int.reduceLT, Int.reduceLE, Nat.reduceMul, Nat.reduceMod, evW, evR, Nat.reduceAdd, Nat.reduceLT, Nat.reduceLeDiff, reduceIte, Nat.reduceEqDiff, reduceCtorEq, argEnv, eq_self, if_true, if_false, *])
      exact frz_two (fz_nils _) rfl (by simp) (by simp) _ _
    by_cases c3 : a < 0
    · rw [if_pos (giveOk_no fun h => by have := h.1; omega)]
      simp only [c31, h33, c1, c2, c3, evX, Int.reduceEq, Int.reduceLT, Int.reduceLE, Nat.reduceMul, Nat.reduceMod, evW, fn_eq, evR, Nat.reduceAdd, Nat.reduceLT, Nat.reduceLeDiff, reduceIte, Nat.reduceEqDiff, reduceCtorEq, argEnv, eq_self, if_true, if_false]
      repeat' ((first | rw [guardK_cases] | rw [condK_bool] | rw [guardD_cases]); split <;> simp only [c31, h33, c1, c2, c3, evX, Int.reduceEq, Int.reduceLT, Int.reduceLE, Nat.reduceMul, Nat.reduceMod, evW, evR, Nat.reduceAdd, Nat.reduceLT, Nat.reduceLeDiff, reduceIte, Nat.reduceEqDiff, reduceCtorEq, argEnv, eq_self, if_true, if_false, *])
      exact frz_two (fz_nils _) rfl (by simp) (by simp) _ _
    obtain ⟨a, rfl⟩ : ∃ m : Nat, a = (m : Int) := ⟨a.toNat, by omega⟩
    obtain ⟨n, rfl⟩ : ∃ m : Nat, n = (m : Int) := ⟨n.toNat, by omega⟩
    by_cases c4 : a % 2 = 0
    · have c4' : ((a % 2 : Nat) : Int) = 0 := by omega
      have h44 := fun H => f44 n (by omega) H
      have hev := @evn_le n
      have hlk := ans_len p
      have hS := sPl H (plAns p).1
      have h38 := f38 (plAns p).1 (ePl (plAns p).1) (by omega) (fun x hx => by have := ans_small p hp x hx; omega) (a : Int) ((evn n : Nat) : Int) H hS fun i x hx => fAt _ i x hx
      have hsame : (decide (withinOk (a : Int) ((evn n : Nat) : Int)) && usedAns (plAns p).1 (a : Int).toNat ((evn n : Nat) : Int).toNat) = giveOk (plAns p).1 a n := by
        have h0 : (a : Int) % 2 = 0 := by omega
        simp only [giveOk, h0, decide_true, Bool.and_true, Int.toNat_natCast]
        congr 1
        rw [decide_eq_decide]
        unfold withinOk
        omega
      rw [hsame] at h38
      cases hg : giveOk (plAns p).1 a n with
      | false =>
        rw [hg] at h38
        rw [if_pos rfl]
        simp only [c31, h33, c1, c2, c3, tm2, c4', h44, h38, evX, Int.reduceEq, Int.reduceLT, Int.reduceLE, Nat.reduceMul, Nat.reduceMod, evW, fn_eq, evR, Nat.reduceAdd, Nat.reduceLT, Nat.reduceLeDiff, reduceIte, Nat.reduceEqDiff, reduceCtorEq, argEnv, eq_self, if_true, if_false]
        repeat' ((first | rw [guardK_cases] | rw [condK_bool] | rw [guardD_cases]); split <;> simp only [c31, h33, c1, c2, c3, tm2, c4', h44, h38, evX, Int.reduceEq, Int.reduceLT, Int.reduceLE, Nat.reduceMul, Nat.reduceMod, evW, evR, Nat.reduceAdd, Nat.reduceLT, Nat.reduceLeDiff, reduceIte, Nat.reduceEqDiff, reduceCtorEq, argEnv, eq_self, if_true, if_false, *])
        exact frz_two (fz_nils _) rfl (by simp) (by simp) _ _
      | true =>
        rw [hg] at h38
        rw [if_neg (by simp)]
        have hokL := ans_okL p
        have g := givAt_of hokL hg
        have hle := g.le
        have hlt := g.lt
        have hw1 := wrapA (a := a) (b := evn n) (by omega) (by omega)
        simp only [Int.toNat_natCast]
        rw [show giveL (plAns p).1 a (a + evn n) = gL (giv (plAns p).1 a (a + evn n)).1 (giv (plAns p).1 a (a + evn n)).2.1 (giv (plAns p).1 a (a + evn n)).2.2.1 (giv (plAns p).1 a (a + evn n)).2.2.2 a (a + evn n) from rfl]
        rw [← g.same hlen]
        have hfts := g.fts
        have hnds := g.nds
        have hfl := g.from_le
        have htg := g.to_ge
        have hokG := g.okG
        generalize gL (giv (plAns p).1 a (a + evn n)).1 (giv (plAns p).1 a (a + evn n)).2.1 (giv (plAns p).1 a (a + evn n)).2.2.1 (giv (plAns p).1 a (a + evn n)).2.2.2 a (a + evn n) = L at *
        generalize gFrom (giv (plAns p).1 a (a + evn n)).2.1 a = f at *
        generalize gTo (giv (plAns p).1 a (a + evn n)).2.2.1 (a + evn n) = t at *
        clear g
        have hl0 := l31_0 H (eB p) (plAns p).1 hokL a (a + evn n)
        have hl1 := l31_1 H (eB p) (plAns p).1 hokL a (a + evn n) f t (by omega) htg.1
        rw [hfts] at hl0
        simp only [c31, h33, c1, c2, c3, tm2, c4', h44, h38, hw1, evX, Int.reduceEq, Int.reduceLT, Int.reduceLE, Nat.reduceMul, Nat.reduceMod, evW, fn_eq, evR, Nat.reduceAdd, Nat.reduceLT, Nat.reduceLeDiff, reduceIte, Nat.reduceEqDiff, reduceCtorEq, argEnv, eq_self, if_true, if_false]
        repeat' ((first | rw [guardK_cases] | rw [condK_bool] | rw [guardD_cases]); split <;> simp only [c31, h33, c1, c2, c3, tm2, c4', h44, h38, hw1, evX, Int.reduceEq, Int.reduceLT, Int.reduceLE, Nat.reduceMul, Nat.reduceMod, evW, evR, Nat.reduceAdd, Nat.reduceLT, Nat.reduceLeDiff, reduceIte, Nat.reduceEqDiff, reduceCtorEq, argEnv, eq_self, if_true, if_false, *])
        generalize hz : itLim _ _ = z
        obtain ⟨T, rfl, hT⟩ := hl0 _ (by rfl) rfl z hz
        clear hz hl0
        simp only [hT, evX, Int.reduceEq, Int.reduceLT, Int.reduceLE, Nat.reduceMul, Nat.reduceMod, evW, fn_eq, evR, Nat.reduceAdd, Nat.reduceLT, Nat.reduceLeDiff, reduceIte, Nat.reduceEqDiff, reduceCtorEq, argEnv, eq_self, if_true, if_false]
        repeat' ((first | rw [guardK_cases] | rw [condK_bool] | rw [guardD_cases]); split <;> simp only [hT, evX, Int.reduceEq, Int.reduceLT, Int.reduceLE, Nat.reduceMul, Nat.reduceMod, evW, evR, Nat.reduceAdd, Nat.reduceLT, Nat.reduceLeDiff, reduceIte, Nat.reduceEqDiff, reduceCtorEq, argEnv, eq_self, if_true, if_false, *])
        generalize hz : itLim _ _ = z
        obtain ⟨T1, X, rv, rfl, hT1, hO⟩ := hl1 _ (by rfl) rfl z hz
        clear hz hl1 hT
        have hnl := nds_len f t (plAns p).1
        have hwt : IntKind.i64.wrap ((t : Int) - (f : Int)) = ((t - f : Nat) : Int) := by rw [wrap_i64 (by omega) (by omega)]; omega
        generalize nds f t (plAns p).1 = s at *
        obtain ⟨nx, d⟩ := s
        simp only at hO hnl
        cases d with
        | true =>
          have hL : nx = L := hnds
          rw [hL] at hO
          have h45 := f45 p hp hok rv L hokG a (a + evn n) (by omega) hle (H ++ X) (out_slat hO H rfl (pl_rows _))
          clear hL hnds
          simp only [hT1, h45, evX, Int.reduceEq, Int.reduceLT, Int.reduceLE, Nat.reduceMul, Nat.reduceMod, evW, fn_eq, evR, Nat.reduceAdd, Nat.reduceLT, Nat.reduceLeDiff, reduceIte, Nat.reduceEqDiff, reduceCtorEq, argEnv, eq_self, if_true, if_false]
          repeat' ((first | rw [guardK_cases] | rw [condK_bool] | rw [guardD_cases]); split <;> simp only [hT1, h45, evX, Int.reduceEq, Int.reduceLT, Int.reduceLE, Nat.reduceMul, Nat.reduceMod, evW, evR, Nat.reduceAdd, Nat.reduceLT, Nat.reduceLeDiff, reduceIte, Nat.reduceEqDiff, reduceCtorEq, argEnv, eq_self, if_true, if_false, *])
          exact frz_two (ids := []) rfl rfl (by simp) (by simp) _ _
        | false =>
          have hL : nx ++ [(f, t - f)] = L := hnds
          obtain ⟨rv1, X1, a1, t1, O1⟩ := (hO.more [⟨0, true, 35, 2, [rPl (f, t - f)]⟩]).app H rfl 16 (.ref (H.length + X.length) 0 2 0 1) [rPl (f, t - f)] (by simp [srcRows, rowsOf, curBlk, ← List.append_assoc]) (by simp [rPl]) (by simp [reach]; omega)
          have hnx : nx.map rPl ++ [rPl (f, t - f)] = L.map rPl := by rw [← hL]; simp
          rw [hnx] at O1
          have h45 := f45 p hp hok rv1 L hokG a (a + evn n) (by omega) hle (H ++ X1) (out_slat O1 H rfl (pl_rows _))
          simp only [rPl] at a1
          clear hL hnds hnx
          simp only [hT1, hwt, a1, t1, h45, evX, Int.reduceEq, Int.reduceLT, Int.reduceLE, Nat.reduceMul, Nat.reduceMod, evW, fn_eq, evR, Nat.reduceAdd, Nat.reduceLT, Nat.reduceLeDiff, reduceIte, Nat.reduceEqDiff, reduceCtorEq, argEnv, eq_self, if_true, if_false]
          repeat' ((first | rw [guardK_cases] | rw [condK_bool] | rw [guardD_cases]); split <;> simp only [hT1, hwt, a1, t1, h45, evX, Int.reduceEq, Int.reduceLT, Int.reduceLE, Nat.reduceMul, Nat.reduceMod, evW, evR, Nat.reduceAdd, Nat.reduceLT, Nat.reduceLeDiff, reduceIte, Nat.reduceEqDiff, reduceCtorEq, argEnv, eq_self, if_true, if_false, *])
          exact frz_two (ids := []) rfl rfl (by simp) (by simp) _ _
    · have c4' : ¬ ((a % 2 : Nat) : Int) = 0 := by omega
      have hg : giveOk (plAns p).1 a n = false := by
        have h0 : ¬ (a : Int) % 2 = 0 := by omega
        simp [giveOk, h0]
      rw [if_pos hg]
      simp only [c31, h33, c1, c2, c3, tm2, c4', evX, Int.reduceEq, Int.reduceLT, Int.reduceLE, Nat.reduceMul, Nat.reduceMod, evW, fn_eq, evR, Nat.reduceAdd, Nat.reduceLT, Nat.reduceLeDiff, reduceIte, Nat.reduceEqDiff, reduceCtorEq, argEnv, eq_self, if_true, if_false]
      repeat' ((first | rw [guardK_cases] | rw [condK_bool] | rw [guardD_cases]); split <;> simp only [c31, h33, c1, c2, c3, tm2, c4', evX, Int.reduceEq, Int.reduceLT, Int.reduceLE, Nat.reduceMul, Nat.reduceMod, evW, evR, Nat.reduceAdd, Nat.reduceLT, Nat.reduceLeDiff, reduceIte, Nat.reduceEqDiff, reduceCtorEq, argEnv, eq_self, if_true, if_false, *])
      exact frz_two (fz_nils _) rfl (by simp) (by simp) _ _
theorem f5 (p : List Nat) (hp : Page p) (a n : Int) (H : Heap) : ∃ H', evFn (evC cprog) itLim c5 [eB p, .int .i64 a, .int .i64 n] H = some (.bool true, H') := by
  have h1 := (sB H p).len
  simp only [List.length_map] at h1
  have h28 := fun H => f28 p hp n H
  have h29 := fun H => f29 p hp n H
  have h30 := fun H => f30 p hp a n H
  have h31 := fun H => f31 p hp a n H
  have hbb : ∀ b : Bool, (b == b) = true := fun b => by cases b <;> rfl
  simp only [c5, h1, f8, h28, h29, h30, h31, b2s_B, hbb, beq_self_eq_true, evX, Int.reduceEq, Int.reduceLT, Int.reduceLE, Nat.reduceMul, Nat.reduceMod, evW, fn_eq, evR, Nat.reduceAdd, Nat.reduceLT, Nat.reduceLeDiff, reduceIte, Nat.reduceEqDiff, reduceCtorEq, argEnv, eq_self, if_true, if_false]
  repeat' ((first | rw [guardK_cases] | rw [condK_bool] | rw [guardD_cases]); split <;> simp only [c5, h1, f8, h28, h29, h30, h31, b2s_B, hbb, beq_self_eq_true, evX, Int.reduceEq, Int.reduceLT, Int.reduceLE, Nat.reduceMul, Nat.reduceMod, evW, evR, Nat.reduceAdd, Nat.reduceLT, Nat.reduceLeDiff, reduceIte, Nat.reduceEqDiff, reduceCtorEq, argEnv, eq_self, if_true, if_false, *])
  all_goals exact ⟨_, rfl⟩
end Go.Proofs.Ythgcnlmmgilhjaa.Code

/- page: all functions are held, by the kernel's look or by a proof of their own. -/
set_option linter.unusedSimpArgs false
set_option linter.unusedVariables false
namespace Go.Proofs.Ythgcnlmmgilhjaa.Code
open Go.Proofs.Ythgcnlmmgilhjaa.Ev

theorem cprog_sound {f : Nat} {c : CFn} (h : cprog f = some c) : okFn Go.Proofs.Try.prog f c = true ∨ UserOk Go.Proofs.Try.prog f c := by
  rcases cprog_ok h with h | h
  · exact .inl h
  · simp only [utab, List.mem_cons, Prod.mk.injEq, List.not_mem_nil, or_false] at h
    obtain ⟨rfl, rfl⟩ := h
    exact .inr (userIns rfl rfl rfl rfl)
end Go.Proofs.Ythgcnlmmgilhjaa.Code

/- The law PageTakes. -/
set_option linter.unusedSimpArgs false
set_option linter.unusedVariables false
namespace Go.Proofs.Ythgcnlmmgilhjaa.Pure
open Go.Proofs.Ythgcnlmmgilhjaa.Ev Go.Proofs.Ythgcnlmmgilhjaa.Code Go.RowKit
theorem open_i {a : AV} (h : ArgTy false [.int .i64] a) : ∃ n : Int, a = .int .i64 n := by
  simp only [ArgTy, HasL, Has] at h
  obtain ⟨x, xs, h1, ⟨n, rfl, _⟩, rfl⟩ := h
  cases h1
  exact ⟨n, rfl⟩
theorem PageTakes (a0 : AV) (t0 : ArgTy false [.sl [.int .u8]] a0) (a1 : AV) (t1 : ArgTy false [.int .i64] a1) (a2 : AV) (t2 : ArgTy false [.int .i64] a2) : ∃ H', evC cprog 5 [a0, a1, a2] [] = some (.bool true, H') := by
  obtain ⟨p, rfl, hp⟩ := open_page t0
  obtain ⟨a, rfl⟩ := open_i t1
  obtain ⟨n, rfl⟩ := open_i t2
  rw [evC_fn at5]
  exact f5 p hp a n []
end Go.Proofs.Ythgcnlmmgilhjaa.Pure

