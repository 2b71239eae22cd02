/- Texts of ours, joined into one file; each begins with its own remark. -/
import Derived.Test.YtbdpceigmnpoaaaGreatDoorU2
import Derived.Test.YtbdpceigmnpoaaaGreatDoorCodeB
import Derived.Test.YtbdpceigmnpoaaaGreatDoorRepU
import Derived.Test.YtbdpceigmnpoaaaGreatDoorStrU
import Derived.Test.YtbdpceigmnpoaaaGreatDoorU1
import Derived.KernelRfl
/- call: paths and answers of the book. -/
set_option linter.unusedSimpArgs false
set_option linter.unusedVariables false
namespace Go.Proofs.YtbdpceigmnpoaaaGreatDoor.Code
open Go.Proofs.YtbdpceigmnpoaaaGreatDoor.Ev

theorem f108 (b : Base) (f : List Item) (hr : Right b f) (p : Nat) (K : Heap) (hk : Bk b f p K) (i : Nat) (hi : i < f.length) : cal (evC cprog) true 108 [.ptr p 0 6 0 0, .int .i64 (i : Int)] K = some (eIs (pth b.types f i), K) := by
  rw [cal_of at108]
  have hfl := hr.len
  obtain ⟨pv, hp, _, hq⟩ := hk.open
  have kt : ∀ Z, (K ++ Z).take K.length = K := fun Z => by simp
  have L := fun (st : St) (hE : keepEnv st.1 [0, 1, 5] = [(0, .ptr p 0 6 0 0), (1, .int .i64 (i : Int)), (5, .nils)]) (hH : st.2 = K) (z : Option (CX × St)) (hz : itLim (evCode (evC cprog) itLim c108_l0) st = z) =>
    loop_rule (σ := Int × List Int × Heap × AV) (m := [0, 1, 5]) (env := fun s => [(0, .ptr p 0 6 0 0), (1, .int .i64 s.1), (5, s.2.2.2)]) (hp := fun s => K ++ s.2.2.1)
    (P := fun _ r => ∃ T X rv, r = (.exit 0, T, K ++ X) ∧ keepEnv T [5] = [(5, rv)] ∧ Out K.length 1 3 X rv ((pth b.types f i).reverse.map rI))
    (mu := fun s => (s.1 + 1).toNat) (I := fun s => Walks b f i s.1 s.2.1 ∧ Out K.length 1 3 s.2.2.1 s.2.2.2 (s.2.1.reverse.map rI)) (evCode (evC cprog) itLim c108_l0) (by
      intro ⟨c, acc, X, rv⟩ ⟨w, hO⟩ E hE
      simp only at w hO hE ⊢
      have h1 := w.lo
      have h2 := w.hi
      have h3 := w.len
      by_cases hc : 0 ≤ c
      · obtain ⟨c, rfl⟩ : ∃ k : Nat, c = (k : Int) := ⟨c.toNat, by omega⟩
        obtain ⟨q, q1, q2, _⟩ := hq c (by omega)
        have w2 := w.step
        obtain ⟨rv1, X1, a1, t1, O1⟩ := (hO.more [⟨0, true, 3, 1, [[.int .i64 (c : Int)]]⟩]).app K rfl 8 (.ref (K.length + X.length) 0 1 0 1) [rI (c : Int)] (by simp [srcRows, rowsOf, curBlk, ← List.append_assoc, rI]) (by simp [rI]) (by simp [reach]; omega)
        have hra : acc.reverse.map rI ++ [rI (c : Int)] = ((c : Int) :: acc).reverse.map rI := by simp
        rw [hra] at O1
        have hpl := par_lt b.types f c
        simp only [c108_l0, nilck_ptr, hE, hc, hp, q1, q2, a1, t1, evX, Int.reduceEq, Int.reduceLT, Int.reduceLE, Nat.reduceMul, Nat.reduceMod, evW, fn_eq, evR, Nat.reduceAdd, Nat.reduceLT, Nat.reduceLeDiff, reduceIte, Nat.reduceEqDiff, reduceCtorEq, argEnv, eq_self, if_true, if_false]
        exact q_next (par b.types f c, (c : Int) :: acc, X1, rv1) (by rfl) rfl ⟨w2, O1⟩ (by simp only; omega) fun r h => h
      · simp only [c108_l0, nilck_ptr, hE, hc, evX, Int.reduceEq, Int.reduceLT, Int.reduceLE, Nat.reduceMul, Nat.reduceMod, evW, fn_eq, evR, Nat.reduceAdd, Nat.reduceLT, Nat.reduceLeDiff, reduceIte, Nat.reduceEqDiff, reduceCtorEq, argEnv, eq_self, if_true, if_false]
        rw [w.last (by omega)] at hO
        exact q_exit ⟨_, X, rv, rfl, by rfl, hO⟩) ((i : Int), [], [], .nils) st ⟨⟨by omega, by omega, by rw [pthI_nat, List.append_nil], by simp; omega⟩, .nils ..⟩ hE (by simpa using hH) z hz
  simp only [c108, evX, Int.reduceEq, Int.reduceLT, Int.reduceLE, Nat.reduceMul, Nat.reduceMod, evW, fn_eq, evR, Nat.reduceAdd, Nat.reduceLT, Nat.reduceLeDiff, reduceIte, Nat.reduceEqDiff, reduceCtorEq, argEnv, eq_self, if_true, if_false]
  generalize hz : itLim _ _ = z
  obtain ⟨_, rfl, T, X, rv, rfl, hT, hO⟩ := L _ (by rfl) rfl z hz
  clear hz L
  have hne : pth b.types f i ≠ [] := fun e => by have := pth_self b.types f i; rw [e] at this; cases this
  have hpl := fk_len hr hi
  obtain ⟨Z, ids, h138, hsc, hs2, g1, g2, ht⟩ := rev_out hO hne (by omega) kt (Nat.le_refl _)
  generalize K ++ X = Y at *
  simp only [hT, h138, hsc, evX, Int.reduceEq, Int.reduceLT, Int.reduceLE, Nat.reduceMul, Nat.reduceMod, evW, fn_eq, evR, Nat.reduceAdd, Nat.reduceLT, Nat.reduceLeDiff, reduceIte, Nat.reduceEqDiff, reduceCtorEq, argEnv, eq_self, if_true, if_false]
  exact frz_one g1 hs2 ht g2

/-! the answer -/
/-- arguments with their types, without the last -/
def zArs (ts : List Ty) (l : List Ar) : List (Int × Ar) := (l.take (l.length - 1)).map fun a => (tyIx ts a.seg, a)
def datL (b : Base) (f : List Item) (l : List Ar) (i : Nat) : List ByteArray := (pth b.types f i).flatMap (selP f (zArs b.types l))
def ansB (b : Base) (f : List Item) (l : List Ar) (i : Nat) : An :=
  ⟨sWell, (tyOf b.types (typ f (i : Int))).name, ((pth b.types f i).length : Int), ⟨(keyU (fkL b f i)).toArray⟩, catL ⟨#[]⟩ (datL b f l i ++ [dat f (i : Int)])⟩
theorem catL_app : ∀ (l m : List ByteArray) (s : ByteArray), catL s (l ++ m) = catL (catL s l) m
  | [], _, _ => rfl
  | x :: l, m, s => catL_app l m (s ++ x)
theorem catL_size : ∀ (l : List ByteArray) (s : ByteArray) (n : Nat), (∀ x ∈ l, x.size ≤ n) → (catL s l).size ≤ s.size + l.length * n
  | [], _, _, _ => by simp [catL]
  | x :: l, s, n, h => by
    have h1 := h x (by simp)
    have h2 := catL_size l (s ++ x) n fun y hy => h y (by simp [hy])
    rw [ByteArray.size_append] at h2
    rw [catL, List.length_cons, Nat.succ_mul]
    omega
/-- the place of a type among the arguments' -/
theorem sel_at {ts : List Ty} {l : List Ar} (f : List Item) (a : Int) : (∃ (k : Nat) (x : Ar), idxOf (fun y => decide (typ f a = y)) (tysA ts l) = (k : Int) ∧ k < l.length - 1 ∧ l[k]? = some x ∧ selP f (zArs ts l) a = if hasC x 68 = true then [dat f a] else []) ∨
    (idxOf (fun y => decide (typ f a = y)) (tysA ts l) < 0 ∧ selP f (zArs ts l) a = []) ∨ ∃ k : Nat, idxOf (fun y => decide (typ f a = y)) (tysA ts l) = (k : Int) ∧ k < l.length ∧ l.length - 1 ≤ k ∧ selP f (zArs ts l) a = [] := by
  have hz : ∀ m : Nat, ∀ z ∈ (l.take m).map (fun a => (tyIx ts a.seg, a)), z.1 ∈ tysA ts l := fun m z hz => by
    obtain ⟨x, hx, rfl⟩ := List.mem_map.1 hz
    exact List.mem_map.2 ⟨x, List.mem_of_mem_take hx, rfl⟩
  rcases idxOf_find (fun y => decide (typ f a = y)) (tysA ts l) with ⟨h1, h2⟩ | ⟨k, t, h1, h2, h3, h4⟩
  · refine .inr (.inl ⟨by omega, ?_⟩)
    unfold selP
    rw [List.find?_eq_none.2]
    intro z hz'
    have := List.find?_eq_none.1 h2 _ (hz _ z hz')
    simp only [decide_eq_true_eq] at this ⊢
    exact fun e => this e.symm
  · have hk : k < l.length := by have := (List.getElem?_eq_some_iff.1 h2).1; simpa [tysA] using this
    obtain ⟨x, hx⟩ : ∃ x, l[k]? = some x := ⟨_, List.getElem?_eq_getElem hk⟩
    have htx : tyIx ts x.seg = t := by rw [tysA_at hx] at h2; simpa using h2
    have hta : typ f a = t := by simpa using h4
    have first : ∀ j : Nat, j < k → ∀ y, l[j]? = some y → tyIx ts y.seg ≠ typ f a := fun j hj y hy e => by
      have e1 : idxOf (fun y => decide (typ f a = y)) (tysA ts l) ≤ (j : Int) := by
        unfold idxOf
        cases hf : (tysA ts l).findIdx? fun y => decide (typ f a = y) with
        | none => simp only; omega
        | some m =>
          have := List.findIdx?_eq_some_iff_getElem.1 hf
          obtain ⟨_, _, h⟩ := this
          simp only
          apply Classical.byContradiction
          intro hc
          have := h j (by omega)
          have hyj := tysA_at (ts := ts) hy
          rw [List.getElem?_eq_getElem (by have := (List.getElem?_eq_some_iff.1 hy).1; simpa [tysA] using this)] at hyj
          simp only [Option.some.injEq] at hyj
          rw [hyj] at this
          simp [e] at this
      omega
    by_cases hkn : k < l.length - 1
    · refine .inl ⟨k, x, h1, hkn, hx, ?_⟩
      have hf : (zArs ts l).find? (fun z => decide (z.1 = typ f a)) = some (tyIx ts x.seg, x) := by
        rw [List.find?_eq_some_iff_getElem]
        refine ⟨by simp [htx, hta], k, by simp [zArs]; omega, ?_, fun j hj => ?_⟩
        · simp only [zArs, List.getElem_map, List.getElem_take]
          rw [List.getElem?_eq_getElem hk] at hx
          simp only [Option.some.injEq] at hx
          rw [hx]
        · have hjl : j < l.length := by omega
          have := first j hj _ (List.getElem?_eq_getElem hjl)
          simpa [zArs] using this
      unfold selP
      rw [hf]
    · refine .inr (.inr ⟨k, h1, hk, by omega, ?_⟩)
      unfold selP
      rw [List.find?_eq_none.2]
      intro z hz'
      obtain ⟨y, hy, rfl⟩ := List.mem_map.1 hz'
      obtain ⟨j, hj⟩ := List.getElem?_of_mem hy
      rw [List.getElem?_take] at hj
      split at hj
      · have := first j (by omega) y hj
        simpa using this
      · cases hj
theorem dat_small {b : Base} {f : List Item} (hr : Right b f) {i : Nat} (hi : i < f.length) : (dat f (i : Int)).size ≤ 1000 := by
  obtain ⟨x, k, t, hx, _, _, _, hty, _, h⟩ := hr.item hi
  rw [dat_at hx]
  simp only [tyOk, Bool.and_eq_true, sizeOk, decide_eq_true_eq] at hty
  omega
theorem rowBytes_U : ∀ p : List UInt8, rowBytes (p.map rU) = some p
  | [] => rfl
  | n :: p => by simp [rowBytes, rU, rowBytes_U p]
theorem b2s_U (H : Heap) (l : List UInt8) : b2sK H (some (eU l)) = some (.str ⟨l.toArray⟩) := by
  simp only [b2sK, eU, rowsOf, rowBytes_U]; rfl
theorem selP_one (f : List Item) (Z : List (Int × Ar)) (m : List Int) : (m.flatMap (selP f Z)).length ≤ m.length := by
  induction m with
  | nil => simp
  | cons c m ih =>
    rw [List.flatMap_cons, List.length_append, List.length_cons]
    have : (selP f Z c).length ≤ 1 := by
      unfold selP
      split
      · split <;> simp
      · simp
    omega
theorem selP_size {b : Base} {f : List Item} (hr : Right b f) {i : Nat} (hi : i < f.length) (Z : List (Int × Ar)) (j : Nat) : (catL ⟨#[]⟩ (((pth b.types f i).take j).flatMap (selP f Z))).size ≤ 1000000 := by
  have hpl := fk_len hr hi
  have h7 := catL_size (((pth b.types f i).take j).flatMap (selP f Z)) ⟨#[]⟩ 1000 fun x hx => by
    obtain ⟨a, ha, hxa⟩ := List.mem_flatMap.1 hx
    have hb := pth_bound (List.mem_of_mem_take ha)
    obtain ⟨j, rfl⟩ : ∃ j : Nat, a = (j : Int) := ⟨a.toNat, by omega⟩
    unfold selP at hxa
    split at hxa
    · split at hxa
      · simp only [List.mem_singleton] at hxa
        rw [hxa]; exact dat_small hr (by omega)
      · cases hxa
    · cases hxa
  have h8 := selP_one f Z ((pth b.types f i).take j)
  rw [List.length_take] at h8
  have e0 : (⟨#[]⟩ : ByteArray).size = 0 := rfl
  rw [e0] at h7
  have : (((pth b.types f i).take j).flatMap (selP f Z)).length * 1000 ≤ 5000 := by omega
  omega
def bAn0 : Blk := ⟨0, true, 49, 5, [[.str ⟨#[]⟩, .str ⟨#[]⟩, .int .i64 0, .str ⟨#[]⟩, .str ⟨#[]⟩]]⟩
set_option maxHeartbeats 8000000 in
theorem l70 (b : Base) (f : List Item) (hr : Right b f) (p : Nat) (K1 : Heap) (hk : Bk b f p K1) (l : List Ar) (hl : l.length < 9223372036854775807) (av ta : AV) (hav : av = eArs l ∨ l = []) (hlen : lenK false (some av) = some (.int .i64 (l.length : Int))) (hta : ∀ H, SlAt H 1 ta ((tysA b.types l).map rI)) (i : Nat) (hi : i < f.length) (n0 : Nat) (st : St)
    (hE : keepEnv st.1 [0, 1, 2, 3, 8, 9, 10, 11, 21, 22, 23] = [(0, .ptr p 0 6 0 0), (1, av), (2, ta), (3, .int .i64 (i : Int)), (8, .ptr n0 0 5 0 0), (9, .nils), (10, .str ⟨#[]⟩), (11, eIs (pth b.types f i)), (21, eIs (pth b.types f i)), (22, .int .i64 ((pth b.types f i).length : Int)), (23, .int .i64 0)]) (hH : st.2 = K1) (z : Option (CX × St)) (hz : itLim (evCode (evC cprog) itLim c70_l0) st = z) :
    ∃ T X rv, z = some (.exit 0, T, K1 ++ X) ∧ keepEnv T [0, 3, 8, 9, 10, 11] = [(0, .ptr p 0 6 0 0), (3, .int .i64 (i : Int)), (8, .ptr n0 0 5 0 0), (9, rv), (10, .str (catL ⟨#[]⟩ (datL b f l i))), (11, eIs (pth b.types f i))] ∧ Out K1.length 1 9 X rv ((fkL b f i).map rS) := by
  have hpl := fk_len hr hi
  have hfl := hr.len
  obtain ⟨pv, kp, _, _⟩ := hk.open
  have L := loop_rule (σ := Nat × Heap × AV) (m := [0, 1, 2, 3, 8, 9, 10, 11, 21, 22, 23]) (env := fun s => [(0, .ptr p 0 6 0 0), (1, av), (2, ta), (3, .int .i64 (i : Int)), (8, .ptr n0 0 5 0 0), (9, s.2.2), (10, .str (catL ⟨#[]⟩ (((pth b.types f i).take s.1).flatMap (selP f (zArs b.types l))))), (11, eIs (pth b.types f i)), (21, eIs (pth b.types f i)), (22, .int .i64 ((pth b.types f i).length : Int)), (23, .int .i64 (s.1 : Int))]) (hp := fun s => K1 ++ s.2.1)
    (P := fun _ r => ∃ T X rv, r = (.exit 0, T, K1 ++ X) ∧ keepEnv T [0, 3, 8, 9, 10, 11] = [(0, .ptr p 0 6 0 0), (3, .int .i64 (i : Int)), (8, .ptr n0 0 5 0 0), (9, rv), (10, .str (catL ⟨#[]⟩ (datL b f l i))), (11, eIs (pth b.types f i))] ∧ Out K1.length 1 9 X rv ((fkL b f i).map rS))
    (mu := fun s => (pth b.types f i).length - s.1) (I := fun s => s.1 ≤ (pth b.types f i).length ∧ Out K1.length 1 9 s.2.1 s.2.2 ((((pth b.types f i).take s.1).map (keyA b f)).map rS)) (evCode (evC cprog) itLim c70_l0) ?_ (0, [], .nils) st ⟨Nat.zero_le _, .nils ..⟩ (by simpa [catL] using hE) (by simpa using hH) z hz
  · obtain ⟨_, rfl, T, X, rv, rfl, h1, h2⟩ := L
    exact ⟨T, X, rv, rfl, h1, h2⟩
  · rintro ⟨j, X, rv⟩ ⟨hj, hO⟩ E hE
    simp only at hj hO hE ⊢
    by_cases hlt : j < (pth b.types f i).length
    · obtain ⟨a, ha⟩ : ∃ a, (pth b.types f i)[j]? = some a := ⟨_, List.getElem?_eq_getElem hlt⟩
      have hjl : (j : Int) < ((pth b.types f i).length : Int) := by omega
      have hai := aI ha
      have hw := wrapS hlt (by omega)
      obtain ⟨n, x, k, t, rfl, hni, h1, h2, h3, h4, h5, h6⟩ := fk_at hr hi (List.mem_of_getElem? ha)
      have hax := aItem h1
      have hdx := dat_at h1
      have h109 := f109 b hr.base hr.valid k t h3 h4 x.data (item_fits hr h1 h2)
      have hO2 := hO.more [⟨0, true, 55, 2, [rItem x]⟩, ⟨0, true, 9, 1, [[.str (keyOf t x.data)]]⟩]
      obtain ⟨rv1, X1, a1, t1, O1, hkp, _⟩ := hO2.app2 K1 rfl 16 (.ref (K1.length + (X.length + 1)) 0 1 0 1) [rS (keyOf t x.data)] (by simp [srcRows, rowsOf, curBlk, at_app, rS]) (by simp [rS]) (by simp) (by simp [reach]; omega)
      have hX1 : X1[X.length]? = some ⟨0, true, 55, 2, [rItem x]⟩ := hkp X.length _ (by simp) (out_oblk hO)
      have hra : (((pth b.types f i).take j).map (keyA b f)).map rS ++ [rS (keyOf t x.data)] = (((pth b.types f i).take (j + 1)).map (keyA b f)).map rS := by
        rw [List.take_add_one, ha]; simp [h6]
      rw [hra] at O1
      have hst : catL ⟨#[]⟩ (((pth b.types f i).take (j + 1)).flatMap (selP f (zArs b.types l))) = catL (catL ⟨#[]⟩ (((pth b.types f i).take j).flatMap (selP f (zArs b.types l)))) (selP f (zArs b.types l) (n : Int)) := by
        rw [List.take_add_one, ha, List.flatMap_append, catL_app]; simp
      have hcs := selP_size hr hi (zArs b.types l) j
      have hds := dat_small hr (i := n) (by omega)
      rw [hdx] at hds
      generalize catL ⟨#[]⟩ (((pth b.types f i).take j).flatMap (selP f (zArs b.types l))) = S at *
      have hsz : S.size + x.data.size ≤ 9223372036854775807 := by omega
      have h110 := fun H => f110 x.type H ta (tysA b.types l) (hta H) (by simp [tysA]; omega)
      have htn := typ_at h1
      rw [← htn] at h110
      rw [← h2, ← htn] at h109
      simp only [eBase, rS] at h109 a1
      simp only [rItem, ← htn] at hax a1 hX1
      rcases sel_at (ts := b.types) (l := l) f (n : Int) with ⟨m, y, m1, m2, m3, m4⟩ | ⟨m1, m4⟩ | ⟨m, m1, m2, m3, m4⟩
      · have hm0 : (0 : Int) ≤ (m : Int) := by omega
        have hm1 : (m : Int) < ((l.length - 1 : Nat) : Int) := by omega
        have hwl : IntKind.i64.wrap ((l.length : Int) - 1) = ((l.length - 1 : Nat) : Int) := by rw [wrap_i64 (by omega) (by omega)]; omega
        have hay := aAr m3
        have hav' : av = eArs l := by
          rcases hav with h | h
          · exact h
          · rw [h] at m3; simp at m3
        subst hav'
        rw [m1] at h110
        have h111 : ∀ H, cal (evC cprog) false 111 [.agg (rAr y), .int .u8 68] H = some (.bool (hasC y 68), H) := fun H => f111 y 68 H
        simp only [rAr] at h111
        cases hD : hasC y 68 with
        | true =>
          rw [hD] at h111
          rw [hD, if_pos rfl, hdx] at m4
          rw [m4] at hst
          generalize typ f (n : Int) = ty at *
          simp only [c70_l0, nilck_ptr, hE, hjl, hai, rI, kp, hax, h109, a1, t1, hX1, h110, hm0, hlen, hwl, hm1, hay, rAr, h111, hsz, hw, evX, Int.reduceEq, Int.reduceLT, Int.reduceLE, Nat.reduceMul, Nat.reduceMod, evW, fn_eq, evR, Nat.reduceAdd, Nat.reduceLT, Nat.reduceLeDiff, reduceIte, Nat.reduceEqDiff, reduceCtorEq, argEnv, eq_self, if_true, if_false]
          exact q_next (j + 1, X1, rv1) (by simp only [hst]; rfl) rfl ⟨hlt, O1⟩ (by simp only; omega) fun r h => h
        | false =>
          rw [hD] at h111
          rw [hD, if_neg (by decide)] at m4
          rw [m4] at hst
          generalize typ f (n : Int) = ty at *
          simp only [c70_l0, nilck_ptr, hE, hjl, hai, rI, kp, hax, h109, a1, t1, hX1, h110, hm0, hlen, hwl, hm1, hay, rAr, h111, hw, evX, Int.reduceEq, Int.reduceLT, Int.reduceLE, Nat.reduceMul, Nat.reduceMod, evW, fn_eq, evR, Nat.reduceAdd, Nat.reduceLT, Nat.reduceLeDiff, reduceIte, Nat.reduceEqDiff, reduceCtorEq, argEnv, eq_self, if_true, if_false]
          exact q_next (j + 1, X1, rv1) (by simp only [hst]; rfl) rfl ⟨hlt, O1⟩ (by simp only; omega) fun r h => h
      · have hm0 : (0 ≤ idxOf (fun y => decide (typ f (n : Int) = y)) (tysA b.types l)) = False := eq_false (by omega)
        rw [m4] at hst
        generalize idxOf (fun y => decide (typ f (n : Int) = y)) (tysA b.types l) = m at *
        generalize typ f (n : Int) = ty at *
        simp only [c70_l0, nilck_ptr, hE, hjl, hai, rI, kp, hax, h109, a1, t1, hX1, h110, hm0, hw, evX, Int.reduceEq, Int.reduceLT, Int.reduceLE, Nat.reduceMul, Nat.reduceMod, evW, fn_eq, evR, Nat.reduceAdd, Nat.reduceLT, Nat.reduceLeDiff, reduceIte, Nat.reduceEqDiff, reduceCtorEq, argEnv, eq_self, if_true, if_false]
        exact q_next (j + 1, X1, rv1) (by simp only [hst]; rfl) rfl ⟨hlt, O1⟩ (by simp only; omega) fun r h => h
      · have hm0 : (0 : Int) ≤ (m : Int) := by omega
        have hm1 : ¬ (m : Int) < ((l.length - 1 : Nat) : Int) := by omega
        have hwl : IntKind.i64.wrap ((l.length : Int) - 1) = ((l.length - 1 : Nat) : Int) := by rw [wrap_i64 (by omega) (by omega)]; omega
        rw [m1] at h110
        rw [m4] at hst
        generalize typ f (n : Int) = ty at *
        simp only [c70_l0, nilck_ptr, hE, hjl, hai, rI, kp, hax, h109, a1, t1, hX1, h110, hm0, hlen, hwl, hm1, hw, evX, Int.reduceEq, Int.reduceLT, Int.reduceLE, Nat.reduceMul, Nat.reduceMod, evW, fn_eq, evR, Nat.reduceAdd, Nat.reduceLT, Nat.reduceLeDiff, reduceIte, Nat.reduceEqDiff, reduceCtorEq, argEnv, eq_self, if_true, if_false]
        exact q_next (j + 1, X1, rv1) (by simp only [hst]; rfl) rfl ⟨hlt, O1⟩ (by simp only; omega) fun r h => h
    · have hjl : ¬ (j : Int) < ((pth b.types f i).length : Int) := by omega
      rw [List.take_of_length_le (by omega)] at hO hE
      simp only [c70_l0, nilck_ptr, hE, hjl, evX, Int.reduceEq, Int.reduceLT, Int.reduceLE, Nat.reduceMul, Nat.reduceMod, evW, fn_eq, evR, Nat.reduceAdd, Nat.reduceLT, Nat.reduceLeDiff, reduceIte, Nat.reduceEqDiff, reduceCtorEq, argEnv, eq_self, if_true, if_false]
      exact q_exit ⟨_, X, rv, rfl, by rfl, hO⟩
set_option maxHeartbeats 8000000 in
theorem f70 (b : Base) (f : List Item) (hr : Right b f) (p : Nat) (K : Heap) (hk : Bk b f p K) (l : List Ar) (hl : l.length < 9223372036854775807) (av ta : AV) (hav : av = eArs l ∨ l = []) (hlen : lenK false (some av) = some (.int .i64 (l.length : Int))) (hta : ∀ H, SlAt H 1 ta ((tysA b.types l).map rI)) (i : Nat) (hi : i < f.length) :
    cal (evC cprog) false 70 [.ptr p 0 6 0 0, av, ta, .int .i64 (i : Int)] K = some (eAn (ansB b f l i), K) := by
  rw [cal_of at70]
  have h108 := f108 b f hr p (K ++ [bAn0]) (hk.app _) i hi
  have hplen := (sIs [] (pth b.types f i)).len
  have hpl := fk_len hr hi
  simp only [List.length_map] at hplen
  simp only [bAn0] at h108
  simp only [c70, h108, hplen, evX, Int.reduceEq, Int.reduceLT, Int.reduceLE, Nat.reduceMul, Nat.reduceMod, evW, fn_eq, evR, Nat.reduceAdd, Nat.reduceLT, Nat.reduceLeDiff, reduceIte, Nat.reduceEqDiff, reduceCtorEq, argEnv, eq_self, if_true, if_false]
  generalize hz : itLim _ _ = z
  obtain ⟨T, X, rv, rfl, hT, hO⟩ := l70 b f hr p (K ++ [bAn0]) (hk.app _) l hl av ta hav hlen hta i hi K.length _ (by rfl) (by simp [bAn0]) z hz
  clear hz
  obtain ⟨pv, kp, _, _⟩ := hk.open
  obtain ⟨x, k, t, hx, hk', hkl, ht, _⟩ := hr.item hi
  have hax := aItem hx
  have hat := aTy ht
  rw [← hk'] at hat
  have hdx := dat_at hx
  have hcs : (catL ⟨#[]⟩ (datL b f l i)).size ≤ 1000000 := by
    have := selP_size hr hi (zArs b.types l) (pth b.types f i).length
    rwa [List.take_length] at this
  have hds := dat_small hr hi
  rw [hdx] at hds
  have hsz : (catL ⟨#[]⟩ (datL b f l i)).size + x.data.size ≤ 9223372036854775807 := by omega
  have h112 := f112 rv (fkL b f i) (by simp only [fkL, List.length_map]; omega) (fk_size hr hi) (K ++ ([bAn0] ++ X)) (by rw [← List.append_assoc]; exact out_slS hO (K ++ [bAn0]) rfl)
  have hb2 := fun H => b2s_U H (keyU (fkL b f i))
  have hans : ansB b f l i = ⟨sWell, t.name, ((pth b.types f i).length : Int), ⟨(keyU (fkL b f i)).toArray⟩, catL ⟨#[]⟩ (datL b f l i) ++ x.data⟩ := by
    unfold ansB
    rw [catL_app, hdx, typ_at hx, hk', tyOf_at ht]; rfl
  rw [hans]
  have hsc := out_tup hO
  simp only [bAn0, List.cons_append, List.nil_append] at h112 ⊢
  generalize catL ⟨#[]⟩ (datL b f l i) = S at *
  generalize keyU (fkL b f i) = q at *
  simp only [hT, nilck_ptr, kp, hax, rItem, hat, rTy, hsz, hplen, h112, hb2, evX, Int.reduceEq, Int.reduceLT, Int.reduceLE, Nat.reduceMul, Nat.reduceMod, evW, fn_eq, evR, Nat.reduceAdd, Nat.reduceLT, Nat.reduceLeDiff, reduceIte, Nat.reduceEqDiff, reduceCtorEq, argEnv, eq_self, if_true, if_false]
  rfl
end Go.Proofs.YtbdpceigmnpoaaaGreatDoor.Code

/- call: items on a path, what holds, what satisfies and search, of the document. -/
set_option linter.unusedSimpArgs false
set_option linter.unusedVariables false
namespace Go.Proofs.YtbdpceigmnpoaaaGreatDoor.Code
open Go.Proofs.YtbdpceigmnpoaaaGreatDoor.Ev

theorem f71 (f : List Item) (P : List Int) (hP : ∀ a ∈ P, 0 ≤ a ∧ a < (f.length : Int)) (hPl : P.length < 9223372036854775807) (t : Int) (H : Heap) : cal (evC cprog) false 71 [eItems f, eIs P, .int .i64 t] H = some (.int .i64 (onL f t P), H) := by
  rw [cal_of at71]
  have hlen := (sIs [] P).len
  simp only [List.length_map] at hlen
  simp only [c71, evX, Int.reduceEq, Int.reduceLT, Int.reduceLE, Nat.reduceMul, Nat.reduceMod, evW, fn_eq, evR, Nat.reduceAdd, Nat.reduceLT, Nat.reduceLeDiff, reduceIte, Nat.reduceEqDiff, reduceCtorEq, argEnv, eq_self, if_true, if_false]
  generalize hz : itLim _ _ = z
  have L := loop_rule (σ := Nat) (m := [0, 1, 2, 7]) (env := fun i => [(0, eItems f), (1, eIs P), (2, .int .i64 t), (7, .int .i64 (i : Int))]) (hp := fun _ => H)
    (P := fun _ r => r.2.2 = H ∧ ((r.1 = .exit 0 ∧ onL f t P = -1) ∨ (r.1 = .ret ∧ get r.2.1 6 = some (.int .i64 (onL f t P)))))
    (mu := fun i => P.length - i) (I := fun i => i ≤ P.length ∧ onL f t P = onL f t (P.drop i)) (evCode (evC cprog) itLim c71_l0) ?_ 0 _ ⟨Nat.zero_le _, by rw [List.drop_zero]⟩ (by rfl) rfl z hz
  · obtain ⟨⟨e, T, H'⟩, rfl, hH, hQ⟩ := L
    simp only at hH hQ
    subst hH
    rcases hQ with ⟨rfl, h⟩ | ⟨rfl, hT⟩
    · rw [h]
      simp only [evX, Int.reduceEq, Int.reduceLT, Int.reduceLE, Nat.reduceMul, Nat.reduceMod, evW, fn_eq, evR, Nat.reduceAdd, Nat.reduceLT, Nat.reduceLeDiff, reduceIte, Nat.reduceEqDiff, reduceCtorEq, argEnv, eq_self, if_true, if_false]
    · simp only [hT, evX, Int.reduceEq, Int.reduceLT, Int.reduceLE, Nat.reduceMul, Nat.reduceMod, evW, fn_eq, evR, Nat.reduceAdd, Nat.reduceLT, Nat.reduceLeDiff, reduceIte, Nat.reduceEqDiff, reduceCtorEq, argEnv, eq_self, if_true, if_false]
  · rintro i ⟨hi, hI⟩ E hE
    by_cases hlt : i < P.length
    · obtain ⟨a, ha⟩ : ∃ a, P[i]? = some a := ⟨_, List.getElem?_eq_getElem hlt⟩
      have hil : (i : Int) < (P.length : Int) := by omega
      have hai := aI ha
      have hw := wrapS hlt hPl
      obtain ⟨h1, h2⟩ := hP a (List.mem_of_getElem? ha)
      obtain ⟨n, rfl⟩ : ∃ n : Nat, a = (n : Int) := ⟨a.toNat, by omega⟩
      obtain ⟨x, hx⟩ : ∃ x, f[n]? = some x := ⟨_, List.getElem?_eq_getElem (by omega)⟩
      have hax := aItem hx
      rw [drop_at ha, onL, typ_at hx] at hI
      by_cases ht : x.type = t
      · rw [if_pos ht] at hI
        simp only [c71_l0, hE, hil, hlen, hai, rI, hax, rItem, ht, evX, Int.reduceEq, Int.reduceLT, Int.reduceLE, Nat.reduceMul, Nat.reduceMod, evW, fn_eq, evR, Nat.reduceAdd, Nat.reduceLT, Nat.reduceLeDiff, reduceIte, Nat.reduceEqDiff, reduceCtorEq, argEnv, eq_self, if_true, if_false]
        exact q_ret ⟨rfl, .inr ⟨rfl, by rw [hI]; rfl⟩⟩
      · rw [if_neg ht] at hI
        simp only [c71_l0, hE, hil, hlen, hai, rI, hax, rItem, ht, hw, evX, Int.reduceEq, Int.reduceLT, Int.reduceLE, Nat.reduceMul, Nat.reduceMod, evW, fn_eq, evR, Nat.reduceAdd, Nat.reduceLT, Nat.reduceLeDiff, reduceIte, Nat.reduceEqDiff, reduceCtorEq, argEnv, eq_self, if_true, if_false]
        exact q_next (i + 1) (by rfl) rfl ⟨hlt, hI⟩ (by omega) fun r h => h
    · have hil : ¬ (i : Int) < (P.length : Int) := by omega
      rw [List.drop_eq_nil_of_le (by omega)] at hI
      simp only [c71_l0, hE, hil, hlen, evX, Int.reduceEq, Int.reduceLT, Int.reduceLE, Nat.reduceMul, Nat.reduceMod, evW, fn_eq, evR, Nat.reduceAdd, Nat.reduceLT, Nat.reduceLeDiff, reduceIte, Nat.reduceEqDiff, reduceCtorEq, argEnv, eq_self, if_true, if_false]
      exact q_exit ⟨rfl, .inl ⟨rfl, hI⟩⟩
theorem pth_in {b : Base} {f : List Item} {i : Nat} (hi : i < f.length) : ∀ a ∈ pth b.types f i, 0 ≤ a ∧ a < (f.length : Int) := fun a ha => by
  have := pth_bound ha
  omega
/-- the parent on a path -/
theorem pth_par {b : Base} {f : List Item} {i : Nat} (hi : i < f.length) : (par b.types f i < 0 ∧ (pth b.types f i).length = 1) ∨ (0 ≤ par b.types f i ∧ 2 ≤ (pth b.types f i).length ∧ (pth b.types f i)[(pth b.types f i).length - 2]? = some (par b.types f i)) := by
  rw [pth_eq _ _ hi]
  by_cases h0 : par b.types f i < 0
  · exact .inl ⟨h0, by rw [pthI_neg _ _ h0]; rfl⟩
  · obtain ⟨p, hp⟩ : ∃ p : Nat, par b.types f i = (p : Int) := ⟨(par b.types f i).toNat, by omega⟩
    rw [hp, pthI_nat]
    have hl := pth_last b.types f p
    have hne : pth b.types f p ≠ [] := fun e => by rw [e] at hl; cases hl
    have hpos := List.length_pos_iff.2 hne
    refine .inr ⟨by omega, by simp; omega, ?_⟩
    rw [List.length_append, List.length_singleton, show (pth b.types f p).length + 1 - 2 = (pth b.types f p).length - 1 by omega, List.getElem?_append_left (by omega), ← List.getLast?_eq_getElem?]
    exact hl
/-- parents of items with the same type: both or none -/
theorem par_both {b : Base} {f : List Item} (hr : Right b f) {i j : Nat} (hi : i < f.length) (hj : j < f.length) (ht : typ f (i : Int) = typ f (j : Int)) : (par b.types f i = -1 ∧ par b.types f j = -1) ∨ (0 ≤ par b.types f i ∧ 0 ≤ par b.types f j) := by
  obtain ⟨x, k, t, hx, hk, _, hkt, _⟩ := hr.item hi
  obtain ⟨y, k', t', hy, hk', _, hkt', _⟩ := hr.item hj
  have e : k = k' := by
    rw [typ_at hx, typ_at hy] at ht
    omega
  subst e
  rw [hkt] at hkt'
  cases hkt'
  rcases hr.par hx hk hkt with ⟨h1, h2, _⟩ | ⟨p, h1, h2, _, h4, _⟩
  · rcases hr.par hy hk' hkt with ⟨_, h3, _⟩ | ⟨q, _, _, _, h5, _⟩
    · exact .inl ⟨h2, h3⟩
    · omega
  · rcases hr.par hy hk' hkt with ⟨h5, _, _⟩ | ⟨q, h3, _⟩
    · omega
    · exact .inr ⟨by omega, by omega⟩
theorem when_at {b : Base} {f : List Item} (a : Ar) {j k : Nat} {y : Item} {t : Ty} (hy : f[j]? = some y) (hk : y.type = (k : Int)) (ht : b.types[k]? = some t) : whenB b f a j = cndHold t.fields a.whn y.data := by
  unfold whenB; rw [typ_at hy, hk, fdsOf_at ht, dat_at hy]
set_option maxHeartbeats 8000000 in
theorem l97_0 (b : Base) (f : List Item) (hr : Right b f) (P : List Int) (l : List Ar) (m : Nat) (a : Ar) (ha : l[m]? = some a) (hok : ArOk b.types a) (i : Nat) (hi : i < f.length) (hti : typ f (i : Int) = tyIx b.types a.seg) (n : Nat) (K : Heap) (hn : Sits K n (bBase b)) (st : St)
    (hE : keepEnv st.1 [1, 2, 3, 4, 9, 10, 14, 15] = [(1, eItems f), (2, eIs P), (3, eArs l), (4, .ptr n 0 4 0 0), (9, .int .i64 (m : Int)), (10, .int .i64 (tyIx b.types a.seg)), (14, eIs (pth b.types f i)), (15, .int .i64 ((i + 1 : Nat) : Int))]) (hH : st.2 = K)
    (z : Option (CX × St)) (hz : itLim (evCode (evC cprog) itLim c97_l0) st = z) :
    (lastB b f a i = true ∧ ∃ T, z = some (.exit 2, T, K) ∧ keepEnv T [1, 2, 3, 4, 9] = [(1, eItems f), (2, eIs P), (3, eArs l), (4, .ptr n 0 4 0 0), (9, .int .i64 (m : Int))]) ∨ (lastB b f a i = false ∧ ∃ T, z = some (.ret, T, K) ∧ get T 8 = some (.bool false)) := by
  have hn0 := hn.at
  simp only [bBase] at hn0
  have hfl := hr.len
  have hlen := (sItems [] f).len
  have hplen := (sIs [] (pth b.types f i)).len
  simp only [List.length_map] at hlen hplen
  have haa := aAr ha
  obtain ⟨x, k, t, hx, hk, hkl, hkt, hty, _⟩ := hr.item hi
  have htk : tyIx b.types a.seg = (k : Int) := by rw [← hti, typ_at hx, hk]
  have hcnd := hok.cnd
  rw [htk, fdsOf_at hkt] at hcnd
  have hpl := fk_len hr hi
  have L := loop_rule (σ := Nat) (m := [1, 2, 3, 4, 9, 10, 14, 15]) (env := fun j => [(1, eItems f), (2, eIs P), (3, eArs l), (4, .ptr n 0 4 0 0), (9, .int .i64 (m : Int)), (10, .int .i64 (tyIx b.types a.seg)), (14, eIs (pth b.types f i)), (15, .int .i64 (j : Int))]) (hp := fun _ => K)
    (P := fun _ r => (lastB b f a i = true ∧ ∃ T, r = (.exit 2, T, K) ∧ keepEnv T [1, 2, 3, 4, 9] = [(1, eItems f), (2, eIs P), (3, eArs l), (4, .ptr n 0 4 0 0), (9, .int .i64 (m : Int))]) ∨ (lastB b f a i = false ∧ ∃ T, r = (.ret, T, K) ∧ get T 8 = some (.bool false)))
    (mu := fun j => f.length - j) (I := fun j => i < j ∧ j ≤ f.length ∧ ∀ q : Nat, i < q → q < j → twinAt b f a i q = false) (evCode (evC cprog) itLim c97_l0) ?_ (i + 1) st ⟨by omega, by omega, fun q h1 h2 => by omega⟩ hE hH z hz
  · obtain ⟨r, rfl, ⟨h, T, rfl, hT⟩ | ⟨h, T, rfl, hT⟩⟩ := L
    · exact .inl ⟨h, T, rfl, hT⟩
    · exact .inr ⟨h, T, rfl, hT⟩
  · rintro j ⟨j1, j2, j3⟩ E hE
    by_cases hlt : j < f.length
    · have hjl : (j : Int) < (f.length : Int) := by omega
      obtain ⟨y, hy⟩ : ∃ y, f[j]? = some y := ⟨_, List.getElem?_eq_getElem hlt⟩
      have hay := aItem hy
      have hw := wrapS hlt (by omega)
      have next : twinAt b f a i j = false → ∀ q : Nat, i < q → q < j + 1 → twinAt b f a i q = false := fun h q q1 q2 => by
        by_cases hq : q < j
        · exact j3 q q1 hq
        · have : q = j := by omega
          rw [this]; exact h
      have et : twinAt b f a i j = (decide (y.type = tyIx b.types a.seg) && decide (par b.types f j = par b.types f i) && whenB b f a j) := by unfold twinAt; rw [hti, typ_at hy]
      by_cases c1 : y.type = tyIx b.types a.seg
      · have hyk : y.type = (k : Int) := by rw [c1, htk]
        have h72 := f72 b f hr j hlt
        have h131 := f131 b hr.base hr.valid k t hkt hty a.whn hok.ok.whn hok.ok.gr hcnd y.data (item_fits hr hy hyk)
        have hqlen := (sIs [] (pth b.types f j)).len
        simp only [List.length_map] at hqlen
        have hql := fk_len hr hlt
        have ewn : cndHold t.fields a.whn y.data = whenB b f a j := (when_at a hy hyk hkt).symm
        rw [ewn] at h131
        simp only [eBase, bEr] at h72 h131
        have htt : typ f (i : Int) = typ f (j : Int) := by rw [hti, typ_at hy, c1]
        rw [← htk] at h131
        have fin : ∀ tw : Bool, decide (par b.types f j = par b.types f i) = tw → (tw && whenB b f a j) = true → lastB b f a i = false := fun tw h1 h2 => tell_neg fun h => by
          have := h j j1 hlt
          rw [et, decide_eq_true c1, Bool.true_and, h1, h2] at this
          cases this
        have go : ∀ tw : Bool, decide (par b.types f j = par b.types f i) = tw → (tw && whenB b f a j) = false → twinAt b f a i j = false := fun tw h1 h2 => by
          rw [et, decide_eq_true c1, Bool.true_and, h1, h2]
        rcases par_both hr hi hlt htt with ⟨p1, p2⟩ | ⟨p1, p2⟩
        · have hl1 : ((pth b.types f i).length : Int) = 1 := by
            rcases pth_par (b := b) hi with ⟨_, h⟩ | ⟨h, _⟩ <;> omega
          have hd : decide (par b.types f j = par b.types f i) = true := by rw [p1, p2]; rfl
          rw [hl1] at hplen
          cases hwn : whenB b f a j with
          | true =>
            rw [hwn] at h131
            have e := fin true hd (by rw [hwn]; rfl)
            simp only [c97_l0, hE, hjl, hlen, hn0, hay, rItem, c1, h72, hplen, haa, rAr, h131, evX, Int.reduceEq, Int.reduceLT, Int.reduceLE, Nat.reduceMul, Nat.reduceMod, evW, fn_eq, evR, Nat.reduceAdd, Nat.reduceLT, Nat.reduceLeDiff, reduceIte, Nat.reduceEqDiff, reduceCtorEq, argEnv, eq_self, if_true, if_false]
            exact q_ret (.inr ⟨e, _, rfl, rfl⟩)
          | false =>
            rw [hwn] at h131
            have e := go true hd (by rw [hwn]; rfl)
            simp only [c97_l0, hE, hjl, hlen, hn0, hay, rItem, c1, h72, hplen, haa, rAr, h131, hw, evX, Int.reduceEq, Int.reduceLT, Int.reduceLE, Nat.reduceMul, Nat.reduceMod, evW, fn_eq, evR, Nat.reduceAdd, Nat.reduceLT, Nat.reduceLeDiff, reduceIte, Nat.reduceEqDiff, reduceCtorEq, argEnv, eq_self, if_true, if_false]
            exact q_next (j + 1) (by rfl) rfl ⟨by omega, hlt, next e⟩ (by omega) fun r h => h
        · obtain ⟨i2, i3⟩ : 2 ≤ (pth b.types f i).length ∧ (pth b.types f i)[(pth b.types f i).length - 2]? = some (par b.types f i) := by
            rcases pth_par (b := b) hi with ⟨h, _⟩ | ⟨_, h, h'⟩
            · omega
            · exact ⟨h, h'⟩
          obtain ⟨q2, q3⟩ : 2 ≤ (pth b.types f j).length ∧ (pth b.types f j)[(pth b.types f j).length - 2]? = some (par b.types f j) := by
            rcases pth_par (b := b) hlt with ⟨h, _⟩ | ⟨_, h, h'⟩
            · omega
            · exact ⟨h, h'⟩
          have hl1 : ¬ ((pth b.types f i).length : Int) = 1 := by omega
          have w1 : IntKind.i64.wrap (((pth b.types f i).length : Int) - 2) = (((pth b.types f i).length - 2 : Nat) : Int) := by rw [wrap_i64 (by omega) (by omega)]; omega
          have w2 : IntKind.i64.wrap (((pth b.types f j).length : Int) - 2) = (((pth b.types f j).length - 2 : Nat) : Int) := by rw [wrap_i64 (by omega) (by omega)]; omega
          have a1 := aI i3
          have a2 := aI q3
          generalize (pth b.types f i).length - 2 = li at *
          generalize (pth b.types f j).length - 2 = lj at *
          by_cases hpp : par b.types f i = par b.types f j
          · have hd : decide (par b.types f j = par b.types f i) = true := decide_eq_true hpp.symm
            cases hwn : whenB b f a j with
            | true =>
              rw [hwn] at h131
              have e := fin true hd (by rw [hwn]; rfl)
              simp only [c97_l0, hE, hjl, hlen, hn0, hay, rItem, c1, h72, hplen, hqlen, hl1, w1, w2, a1, a2, rI, hpp, haa, rAr, h131, evX, Int.reduceEq, Int.reduceLT, Int.reduceLE, Nat.reduceMul, Nat.reduceMod, evW, fn_eq, evR, Nat.reduceAdd, Nat.reduceLT, Nat.reduceLeDiff, reduceIte, Nat.reduceEqDiff, reduceCtorEq, argEnv, eq_self, if_true, if_false]
              exact q_ret (.inr ⟨e, _, rfl, rfl⟩)
            | false =>
              rw [hwn] at h131
              have e := go true hd (by rw [hwn]; rfl)
              simp only [c97_l0, hE, hjl, hlen, hn0, hay, rItem, c1, h72, hplen, hqlen, hl1, w1, w2, a1, a2, rI, hpp, haa, rAr, h131, hw, evX, Int.reduceEq, Int.reduceLT, Int.reduceLE, Nat.reduceMul, Nat.reduceMod, evW, fn_eq, evR, Nat.reduceAdd, Nat.reduceLT, Nat.reduceLeDiff, reduceIte, Nat.reduceEqDiff, reduceCtorEq, argEnv, eq_self, if_true, if_false]
              exact q_next (j + 1) (by rfl) rfl ⟨by omega, hlt, next e⟩ (by omega) fun r h => h
          · have hd : decide (par b.types f j = par b.types f i) = false := decide_eq_false fun h => hpp h.symm
            have e := go false hd rfl
            simp only [c97_l0, hE, hjl, hlen, hn0, hay, rItem, c1, h72, hplen, hqlen, hl1, w1, w2, a1, a2, rI, hpp, haa, rAr, h131, hw, evX, Int.reduceEq, Int.reduceLT, Int.reduceLE, Nat.reduceMul, Nat.reduceMod, evW, fn_eq, evR, Nat.reduceAdd, Nat.reduceLT, Nat.reduceLeDiff, reduceIte, Nat.reduceEqDiff, reduceCtorEq, argEnv, eq_self, if_true, if_false]
            exact q_next (j + 1) (by rfl) rfl ⟨by omega, hlt, next e⟩ (by omega) fun r h => h
      · simp only [c97_l0, hE, hjl, hlen, hay, rItem, c1, hw, evX, Int.reduceEq, Int.reduceLT, Int.reduceLE, Nat.reduceMul, Nat.reduceMod, evW, fn_eq, evR, Nat.reduceAdd, Nat.reduceLT, Nat.reduceLeDiff, reduceIte, Nat.reduceEqDiff, reduceCtorEq, argEnv, eq_self, if_true, if_false]
        exact q_next (j + 1) (by rfl) rfl ⟨by omega, hlt, next (by rw [et, decide_eq_false c1]; simp)⟩ (by omega) fun r h => h
    · have hjl : ¬ (j : Int) < (f.length : Int) := by omega
      simp only [c97_l0, hE, hjl, hlen, evX, Int.reduceEq, Int.reduceLT, Int.reduceLE, Nat.reduceMul, Nat.reduceMod, evW, fn_eq, evR, Nat.reduceAdd, Nat.reduceLT, Nat.reduceLeDiff, reduceIte, Nat.reduceEqDiff, reduceCtorEq, argEnv, eq_self, if_true, if_false]
      exact q_exit (.inl ⟨tell_pos fun q q1 q2 => j3 q q1 (by omega), _, rfl, by rfl⟩)
set_option maxHeartbeats 8000000 in
theorem f97 (b : Base) (f : List Item) (hr : Right b f) (l : List Ar) (hl : l.length < 9223372036854775807) (hok : ∀ a ∈ l, ArOk b.types a) (i : Nat) (hi : i < f.length) (H : Heap) :
    cal (evC cprog) false 97 [eBase b, eItems f, eIs (pth b.types f i), eArs l] H = some (.bool (l.all (argB b f i)), H) := by
  rw [cal_of at97]
  have hlen := (sArs [] l).len
  simp only [List.length_map] at hlen
  have hfl := hr.len
  simp only [c97, eBase, evX, Int.reduceEq, Int.reduceLT, Int.reduceLE, Nat.reduceMul, Nat.reduceMod, evW, fn_eq, evR, Nat.reduceAdd, Nat.reduceLT, Nat.reduceLeDiff, reduceIte, Nat.reduceEqDiff, reduceCtorEq, argEnv, eq_self, if_true, if_false]
  generalize hz : itLim _ _ = z
  have key : ∀ (K : Heap), Sits K H.length (bBase b) → ∀ (st : St) (G : Heap), keepEnv st.1 [1, 2, 3, 4, 9] = [(1, eItems f), (2, eIs (pth b.types f i)), (3, eArs l), (4, .ptr H.length 0 4 0 0), (9, .int .i64 0)] → st.2 = K ++ ([] ++ G) → ∀ z, itLim (evCode (evC cprog) itLim c97_l1) st = z →
      (l.all (argB b f i) = true ∧ Lv K [] (fun c T => c = .exit 0) z) ∨ (l.all (argB b f i) = false ∧ Lv K [] (fun c T => c = .ret ∧ get T 8 = some (.bool false)) z) := by
    intro K hn st G hE hH z hz
    have hn0 := fun X => hn X
    simp only [bBase] at hn0
    exact all_rule l (argB b f i) [1, 2, 3, 4, 9] (fun k => [(1, eItems f), (2, eIs (pth b.types f i)), (3, eArs l), (4, .ptr H.length 0 4 0 0), (9, .int .i64 (k : Int))]) K [] (evCode (evC cprog) itLim c97_l1) _ _
      (fun m a hx E G hE => by
        have hlt : m < l.length := (List.getElem?_eq_some_iff.1 hx).1
        have hml : (m : Int) < (l.length : Int) := by omega
        have haa := aAr hx
        have hw := wrapS hlt hl
        have hao := hok a (List.mem_of_getElem? hx)
        have h73 := f73 b hr.base hr.valid a hao.ty
        have h71 := f71 f (pth b.types f i) (pth_in hi) (by have := fk_len hr hi; omega) (tyIx b.types a.seg)
        have eon : onL f (tyIx b.types a.seg) (pth b.types f i) = onI b f (i : Int) (tyIx b.types a.seg) := by rw [onI, pthI_nat]
        rw [eon] at h71
        simp only [eBase, rAr] at h73
        by_cases h0 : 0 ≤ onI b f (i : Int) (tyIx b.types a.seg)
        · obtain ⟨j, q1, q2, q3, q4⟩ := onI_in hi h0
          have n0 : ¬ (j : Int) < 0 := by omega
          rw [q1] at h71
          obtain ⟨y, k, t, hy, hk, hkl, hkt, hty, _⟩ := hr.item q3
          have hay := aItem hy
          have htk : tyIx b.types a.seg = (k : Int) := by rw [← q4, typ_at hy, hk]
          have hcnd := hao.cnd
          rw [htk, fdsOf_at hkt] at hcnd
          have h131 := f131 b hr.base hr.valid k t hkt hty a.whn hao.ok.whn hao.ok.gr hcnd y.data (item_fits hr hy hk)
          rw [← when_at a hy hk hkt, ← htk] at h131
          have e : argB b f i a = fitB b f a j := by unfold argB; rw [decide_eq_true h0, q1, Int.toNat_natCast, Bool.true_and]
          rw [e]
          have h99 : ∀ H, cal (evC cprog) false 99 [.agg (rAr a), .int .u8 76] H = some (.bool (hasC a 76), H) := fun H => f99 a hao.ok.codes 76 H
          have h72 := f72 b f hr j q3
          have hwj := wrapS q3 (by omega)
          simp only [eBase, bEr, rAr] at h131 h99 h72
          cases hwn : whenB b f a j with
          | false =>
            rw [hwn] at h131
            simp only [c97_l1, hE, hml, hlen, hn0, haa, rAr, h73, h71, n0, hay, rItem, h131, evX, Int.reduceEq, Int.reduceLT, Int.reduceLE, Nat.reduceMul, Nat.reduceMod, evW, fn_eq, evR, Nat.reduceAdd, Nat.reduceLT, Nat.reduceLeDiff, reduceIte, Nat.reduceEqDiff, reduceCtorEq, argEnv, eq_self, if_true, if_false]
            exact Sc.ret (by simp [fitB, hwn]) ⟨rfl, rfl⟩
          | true =>
            rw [hwn] at h131
            cases hL : hasC a 76 with
            | false =>
              rw [hL] at h99
              simp only [c97_l1, hE, hml, hlen, hn0, haa, rAr, h73, h71, n0, hay, rItem, h131, h99, hw, evX, Int.reduceEq, Int.reduceLT, Int.reduceLE, Nat.reduceMul, Nat.reduceMod, evW, fn_eq, evR, Nat.reduceAdd, Nat.reduceLT, Nat.reduceLeDiff, reduceIte, Nat.reduceEqDiff, reduceCtorEq, argEnv, eq_self, if_true, if_false]
              exact Sc.next (by simp [fitB, hwn, hL]) (by rfl)
            | true =>
              rw [hL] at h99
              simp only [c97_l1, hE, hml, hlen, hn0, haa, rAr, h73, h71, n0, hay, rItem, h131, h99, h72, hwj, evX, Int.reduceEq, Int.reduceLT, Int.reduceLE, Nat.reduceMul, Nat.reduceMod, evW, fn_eq, evR, Nat.reduceAdd, Nat.reduceLT, Nat.reduceLeDiff, reduceIte, Nat.reduceEqDiff, reduceCtorEq, argEnv, eq_self, if_true, if_false]
              generalize hz : itLim _ _ = z
              rcases l97_0 b f hr (pth b.types f i) l m a hx hao j q3 q4 H.length (K ++ G) (fun X => by rw [List.append_assoc]; exact hn _) _ (by rfl) rfl z hz with ⟨h, T, rfl, hT⟩ | ⟨h, T, rfl, hT⟩
              · simp only [hT, hw, evX, Int.reduceEq, Int.reduceLT, Int.reduceLE, Nat.reduceMul, Nat.reduceMod, evW, fn_eq, evR, Nat.reduceAdd, Nat.reduceLT, Nat.reduceLeDiff, reduceIte, Nat.reduceEqDiff, reduceCtorEq, argEnv, eq_self, if_true, if_false]
                exact Sc.next (by simp [fitB, hwn, hL, h]) (by rfl)
              · simp only [evX, Int.reduceEq, Int.reduceLT, Int.reduceLE, Nat.reduceMul, Nat.reduceMod, evW, fn_eq, evR, Nat.reduceAdd, Nat.reduceLT, Nat.reduceLeDiff, reduceIte, Nat.reduceEqDiff, reduceCtorEq, argEnv, eq_self, if_true, if_false]
                exact Sc.ret (by simp [fitB, hwn, hL, h]) ⟨rfl, hT⟩
        · have n0 : onI b f (i : Int) (tyIx b.types a.seg) < 0 := by omega
          have e : argB b f i a = false := by unfold argB; rw [decide_eq_false h0, Bool.false_and]
          rw [e]
          simp only [c97_l1, hE, hml, hlen, hn0, haa, rAr, h73, h71, n0, evX, Int.reduceEq, Int.reduceLT, Int.reduceLE, Nat.reduceMul, Nat.reduceMod, evW, fn_eq, evR, Nat.reduceAdd, Nat.reduceLT, Nat.reduceLeDiff, reduceIte, Nat.reduceEqDiff, reduceCtorEq, argEnv, eq_self, if_true, if_false]
          exact Sc.ret rfl ⟨rfl, rfl⟩)
      (fun E G hE => by
        simp only [c97_l1, hE, hlen, Int.lt_irrefl, evX, Int.reduceEq, Int.reduceLT, Int.reduceLE, Nat.reduceMul, Nat.reduceMod, evW, fn_eq, evR, Nat.reduceAdd, Nat.reduceLT, Nat.reduceLeDiff, reduceIte, Nat.reduceEqDiff, reduceCtorEq, argEnv, eq_self, if_true, if_false]
        exact .exit (K := []) rfl) st G hE hH z hz
  rcases key (H ++ [bBase b]) (.mk (by simp)) _ [] (by rfl) (by simp [bBase]) z hz with ⟨ha, c, T, G, rfl, _, rfl⟩ | ⟨ha, c, T, G, rfl, _, rfl, hT⟩
  · rw [ha]
    simp only [evX, Int.reduceEq, Int.reduceLT, Int.reduceLE, Nat.reduceMul, Nat.reduceMod, evW, fn_eq, evR, Nat.reduceAdd, Nat.reduceLT, Nat.reduceLeDiff, reduceIte, Nat.reduceEqDiff, reduceCtorEq, argEnv, eq_self, if_true, if_false]
  · rw [ha]
    simp only [hT, evX, Int.reduceEq, Int.reduceLT, Int.reduceLE, Nat.reduceMul, Nat.reduceMod, evW, fn_eq, evR, Nat.reduceAdd, Nat.reduceLT, Nat.reduceLeDiff, reduceIte, Nat.reduceEqDiff, reduceCtorEq, argEnv, eq_self, if_true, if_false]
theorem f64 (b : Base) (f : List Item) (hr : Right b f) (l : List Ar) (hl : l.length < 9223372036854775807) (hok : ∀ a ∈ l, ArOk b.types a) (i : Nat) (hi : i < f.length) (H : Heap) :
    cal (evC cprog) false 64 [eBase b, eItems f, eArs l, .int .i64 (i : Int)] H = some (.bool (satB b f l i), H) := by
  rw [cal_of at64]
  have h97 := f97 b f hr l hl hok i hi
  have h72 := f72 b f hr i hi
  have hlen := (sArs [] l).len
  simp only [List.length_map] at hlen
  simp only [eBase] at h97 h72
  by_cases h0 : l = []
  · subst h0
    simp only [List.length_nil, Int.natCast_zero] at hlen
    simp only [c64, eBase, hlen, h97, h72, Int.lt_irrefl, evX, Int.reduceEq, Int.reduceLT, Int.reduceLE, Nat.reduceMul, Nat.reduceMod, evW, fn_eq, evR, Nat.reduceAdd, Nat.reduceLT, Nat.reduceLeDiff, reduceIte, Nat.reduceEqDiff, reduceCtorEq, argEnv, eq_self, if_true, if_false]
    simp [satB, lastT]
  · obtain ⟨a, ha⟩ : ∃ a, l.getLast? = some a := by
      cases h : l.getLast? with
      | none => exact absurd (List.getLast?_eq_none_iff.1 h) h0
      | some a => exact ⟨a, rfl⟩
    have hpos := List.length_pos_iff.2 h0
    have hat : l[l.length - 1]? = some a := by rw [← List.getLast?_eq_getElem?]; exact ha
    have hn : (0 : Int) < (l.length : Int) := by omega
    have hw : IntKind.i64.wrap ((l.length : Int) - 1) = ((l.length - 1 : Nat) : Int) := by rw [wrap_i64 (by omega) (by omega)]; omega
    have haa := aAr hat
    have hao := hok a (List.mem_of_getElem? hat)
    have h73 := f73 b hr.base hr.valid a hao.ty
    obtain ⟨x, hx⟩ : ∃ x, f[i]? = some x := ⟨_, List.getElem?_eq_getElem hi⟩
    have hax := aItem hx
    have e : satB b f l i = (decide (x.type = tyIx b.types a.seg) && l.all (argB b f i)) := by simp only [satB, lastT, ha, typ_at hx]
    rw [e]
    simp only [eBase, rAr] at h73
    by_cases ht : x.type = tyIx b.types a.seg
    · simp only [c64, eBase, hlen, hn, hax, rItem, hw, haa, rAr, h73, ht, h97, h72, evX, Int.reduceEq, Int.reduceLT, Int.reduceLE, Nat.reduceMul, Nat.reduceMod, evW, fn_eq, evR, Nat.reduceAdd, Nat.reduceLT, Nat.reduceLeDiff, reduceIte, Nat.reduceEqDiff, reduceCtorEq, argEnv, eq_self, if_true, if_false]
    · simp only [c64, eBase, hlen, hn, hax, rItem, hw, haa, rAr, h73, ht, evX, Int.reduceEq, Int.reduceLT, Int.reduceLE, Nat.reduceMul, Nat.reduceMod, evW, fn_eq, evR, Nat.reduceAdd, Nat.reduceLT, Nat.reduceLeDiff, reduceIte, Nat.reduceEqDiff, reduceCtorEq, argEnv, eq_self, if_true, if_false]
theorem f66 (b : Base) (f : List Item) (hr : Right b f) (l : List Ar) (hl : l.length < 9223372036854775807) (hok : ∀ a ∈ l, ArOk b.types a) (i j : Int) (hi : 0 ≤ i) (hj : j ≤ (f.length : Int)) (H : Heap) :
    cal (evC cprog) false 66 [eBase b, eItems f, eArs l, .int .i64 i, .int .i64 j] H = some (.int .i64 (srchB b f l i j), H) := by
  rw [cal_of at66]
  have hfl := hr.len
  simp only [c66, eBase, evX, Int.reduceEq, Int.reduceLT, Int.reduceLE, Nat.reduceMul, Nat.reduceMod, evW, fn_eq, evR, Nat.reduceAdd, Nat.reduceLT, Nat.reduceLeDiff, reduceIte, Nat.reduceEqDiff, reduceCtorEq, argEnv, eq_self, if_true, if_false]
  generalize hz : itLim _ _ = z
  have key : ∀ K : Heap, Sits K H.length (bBase b) → ∀ (st : St), keepEnv st.1 [1, 2, 4, 5, 11] = [(1, eItems f), (2, eArs l), (4, .int .i64 j), (5, .ptr H.length 0 4 0 0), (11, .int .i64 i)] → st.2 = K → ∀ z, itLim (evCode (evC cprog) itLim c66_l0) st = z →
      ∃ e T, z = some (e, T, K) ∧ ((e = .exit 0 ∧ srchB b f l i j = -1) ∨ (e = .ret ∧ get T 10 = some (.int .i64 (srchB b f l i j)))) := by
    intro K hn st hE hH z hz
    have hn0 := hn.at
    simp only [bBase] at hn0
    have L := loop_rule (σ := Nat) (m := [1, 2, 4, 5, 11]) (env := fun k => [(1, eItems f), (2, eArs l), (4, .int .i64 j), (5, .ptr H.length 0 4 0 0), (11, .int .i64 (k : Int))]) (hp := fun _ => K)
      (P := fun _ r => r.2.2 = K ∧ ((r.1 = .exit 0 ∧ srchB b f l i j = -1) ∨ (r.1 = .ret ∧ get r.2.1 10 = some (.int .i64 (srchB b f l i j)))))
      (mu := fun k => (j - (k : Int)).toNat) (I := fun k => srchB b f l i j = srch (satB b f l) (j - (k : Int)).toNat k) (evCode (evC cprog) itLim c66_l0) ?_ i.toNat st (by unfold srchB; rw [show ((i.toNat : Nat) : Int) = i by omega]) (by rw [show ((i.toNat : Nat) : Int) = i by omega]; exact hE) hH z hz
    · obtain ⟨⟨e, T, H'⟩, rfl, hH, hP⟩ := L
      simp only at hH hP
      subst hH
      exact ⟨e, T, rfl, hP⟩
    · intro k hI E hE
      by_cases hlt : (k : Int) < j
      · have hw := wrapS (i := k) (n := 1000) (by omega) (by omega)
        have h64 := f64 b f hr l hl hok k (by omega)
        simp only [eBase] at h64
        rw [show (j - (k : Int)).toNat = (j - ((k + 1 : Nat) : Int)).toNat + 1 by omega, srch] at hI
        cases hs : satB b f l k with
        | true =>
          rw [hs] at h64 hI
          rw [if_pos rfl] at hI
          simp only [c66_l0, hE, hlt, hn0, h64, evX, Int.reduceEq, Int.reduceLT, Int.reduceLE, Nat.reduceMul, Nat.reduceMod, evW, fn_eq, evR, Nat.reduceAdd, Nat.reduceLT, Nat.reduceLeDiff, reduceIte, Nat.reduceEqDiff, reduceCtorEq, argEnv, eq_self, if_true, if_false]
          exact q_ret ⟨rfl, .inr ⟨rfl, by rw [hI]; rfl⟩⟩
        | false =>
          rw [hs] at h64 hI
          rw [if_neg (by decide)] at hI
          simp only [c66_l0, hE, hlt, hn0, h64, hw, evX, Int.reduceEq, Int.reduceLT, Int.reduceLE, Nat.reduceMul, Nat.reduceMod, evW, fn_eq, evR, Nat.reduceAdd, Nat.reduceLT, Nat.reduceLeDiff, reduceIte, Nat.reduceEqDiff, reduceCtorEq, argEnv, eq_self, if_true, if_false]
          exact q_next (k + 1) (by rfl) rfl hI (by omega) fun r h => h
      · rw [show (j - (k : Int)).toNat = 0 by omega, srch] at hI
        simp only [c66_l0, hE, hlt, evX, Int.reduceEq, Int.reduceLT, Int.reduceLE, Nat.reduceMul, Nat.reduceMod, evW, fn_eq, evR, Nat.reduceAdd, Nat.reduceLT, Nat.reduceLeDiff, reduceIte, Nat.reduceEqDiff, reduceCtorEq, argEnv, eq_self, if_true, if_false]
        exact q_exit ⟨rfl, .inl ⟨rfl, hI⟩⟩
  obtain ⟨e, T, rfl, hP⟩ := key (H ++ [bBase b]) (.mk (by simp)) _ (by rfl) (by simp [bBase]) z hz
  rcases hP with ⟨rfl, h⟩ | ⟨rfl, hT⟩
  · rw [h]
    simp only [evX, Int.reduceEq, Int.reduceLT, Int.reduceLE, Nat.reduceMul, Nat.reduceMod, evW, fn_eq, evR, Nat.reduceAdd, Nat.reduceLT, Nat.reduceLeDiff, reduceIte, Nat.reduceEqDiff, reduceCtorEq, argEnv, eq_self, if_true, if_false]
  · simp only [hT, evX, Int.reduceEq, Int.reduceLT, Int.reduceLE, Nat.reduceMul, Nat.reduceMod, evW, fn_eq, evR, Nat.reduceAdd, Nat.reduceLT, Nat.reduceLeDiff, reduceIte, Nat.reduceEqDiff, reduceCtorEq, argEnv, eq_self, if_true, if_false]
end Go.Proofs.YtbdpceigmnpoaaaGreatDoor.Code

/- call: the answer for an item, of the document. -/
set_option linter.unusedSimpArgs false
set_option linter.unusedVariables false
namespace Go.Proofs.YtbdpceigmnpoaaaGreatDoor.Code
open Go.Proofs.YtbdpceigmnpoaaaGreatDoor.Ev

theorem right_err {b : Base} {f : List Item} (R : Right b f) {i : Nat} (hi : i < f.length) : errF b f [(i : Int)] = 0 := by
  unfold errF
  rw [if_pos R.valid, if_pos R.forest, if_neg]
  simp [outOf]
  omega
theorem f22 (b : Base) (f : List Item) (hr : Right b f) (i : Nat) (hi : i < f.length) (H : Heap) : cal (evC cprog) true 22 [eBase b, eItems f, .int .i64 (i : Int)] H = some (.tup [eU (keyU (fkL b f i)), .int .i64 0], H) := by
  rw [cal_of at22]
  have hfl := hr.len
  have h19 := f19 b hr.base f (by omega) (.ref (H.length + 1) 0 1 0 1) [(i : Int)] (by simp) (H ++ [bBase b, bI (i : Int)]) (one_slat H (i : Int) [bBase b])
  rw [right_err hr hi] at h19
  have h51 := f51 b f hr i hi
  have hcu : (eU (keyU (fkL b f i))).cells = [eU (keyU (fkL b f i))] := rfl
  have htu : (eU (keyU (fkL b f i))).isTup = false := rfl
  simp only [eBase, bBase, bI] at h19 h51
  simp only [c22, eBase, h19, h51, hcu, htu, evX, Int.reduceEq, Int.reduceLT, Int.reduceLE, Nat.reduceMul, Nat.reduceMod, evW, fn_eq, evR, Nat.reduceAdd, Nat.reduceLT, Nat.reduceLeDiff, reduceIte, Nat.reduceEqDiff, reduceCtorEq, argEnv, eq_self, if_true, if_false]
  exact calK_frz (ids := []) rfl rfl (by simp) (by simp)
theorem zArs_at {ts : List Ty} {l : List Ar} {k : Nat} {a : Ar} (h : l[k]? = some a) (hk : k < l.length - 1) : (zArs ts l)[k]? = some (tyIx ts a.seg, a) := by
  rw [zArs, List.getElem?_map, List.getElem?_take, if_pos hk, h]; rfl
theorem zArs_len (ts : List Ty) (l : List Ar) : (zArs ts l).length = l.length - 1 := by simp [zArs]
/-- the data that arguments ask for are those that the types on the path bring -/
theorem datZ_eq {b : Base} {f : List Item} (hr : Right b f) {l : List Ar} {ab : Int} (hR : Rise b.types ab l) {i : Nat} (hi : i < f.length) (hon : ∀ a ∈ l, 0 ≤ onI b f (i : Int) (tyIx b.types a.seg)) : (zArs b.types l).flatMap (selZ f (pth b.types f i)) = datL b f l i := by
  refine (sel_same f (pth b.types f i) (zArs b.types l) (pth_rise hr i i (Nat.le_refl _) hi) ?_ (fun a ha => (pth_bound ha).1) fun z hz => ?_).symm
  · have := rise_pair hR
    have e : (zArs b.types l).map (·.1) = (tysA b.types l).take (l.length - 1) := by simp only [zArs, tysA, List.map_take, List.map_map]; rfl
    rw [e]
    exact List.Pairwise.sublist (List.take_sublist _ _) this
  · obtain ⟨a, ha, rfl⟩ := List.mem_map.1 hz
    have := hon a (List.mem_of_mem_take ha)
    rw [onI, pthI_nat] at this
    exact this
theorem selZ_one (f : List Item) (P : List Int) (m : List (Int × Ar)) : (m.flatMap (selZ f P)).length ≤ m.length := by
  induction m with
  | nil => simp
  | cons c m ih =>
    rw [List.flatMap_cons, List.length_append, List.length_cons]
    have : (selZ f P c).length ≤ 1 := by
      unfold selZ
      split <;> simp
    omega
def bAn (name : ByteArray) (n : Int) (key S : ByteArray) : Blk := ⟨0, true, 49, 5, [[.str sWell, .str name, .int .i64 n, .str key, .str S]]⟩
set_option maxHeartbeats 8000000 in
theorem l74 (b : Base) (f : List Item) (hr : Right b f) (l : List Ar) (hl5 : l.length ≤ 1000) (hok : ∀ a ∈ l, ArOk b.types a) (av : AV) (hav : av = eArs l ∨ l = []) (hlen : lenK false (some av) = some (.int .i64 (l.length : Int))) (i : Nat) (hi : i < f.length) (hon : ∀ a ∈ l, 0 ≤ onI b f (i : Int) (tyIx b.types a.seg)) (name key : ByteArray) (lv : Int) (H : Heap) (st : St)
    (hE : keepEnv st.1 [1, 2, 3, 4, 8, 9, 12, 13] = [(1, eItems f), (2, av), (3, .int .i64 (i : Int)), (4, .ptr H.length 0 4 0 0), (8, .ptr (H.length + 1) 0 5 0 0), (9, eIs (pth b.types f i)), (12, .ptr (H.length + 2) 0 5 0 0), (13, .int .i64 0)]) (hH : st.2 = H ++ [bBase b, bAn0, bAn name lv key ⟨#[]⟩]) (z : Option (CX × St)) (hz : itLim (evCode (evC cprog) itLim c74_l0) st = z) :
    ∃ T, z = some (.exit 0, T, H ++ [bBase b, bAn0, bAn name lv key (catL ⟨#[]⟩ ((zArs b.types l).flatMap (selZ f (pth b.types f i))))]) ∧ keepEnv T [1, 3, 8, 12] = [(1, eItems f), (3, .int .i64 (i : Int)), (8, .ptr (H.length + 1) 0 5 0 0), (12, .ptr (H.length + 2) 0 5 0 0)] := by
  have hfl := hr.len
  have L := loop_rule (σ := Nat) (m := [1, 2, 3, 4, 8, 9, 12, 13]) (env := fun k => [(1, eItems f), (2, av), (3, .int .i64 (i : Int)), (4, .ptr H.length 0 4 0 0), (8, .ptr (H.length + 1) 0 5 0 0), (9, eIs (pth b.types f i)), (12, .ptr (H.length + 2) 0 5 0 0), (13, .int .i64 (k : Int))]) (hp := fun k => H ++ [bBase b, bAn0, bAn name lv key (catL ⟨#[]⟩ (((zArs b.types l).take k).flatMap (selZ f (pth b.types f i))))])
    (P := fun _ r => ∃ T, r = (.exit 0, T, H ++ [bBase b, bAn0, bAn name lv key (catL ⟨#[]⟩ ((zArs b.types l).flatMap (selZ f (pth b.types f i))))]) ∧ keepEnv T [1, 3, 8, 12] = [(1, eItems f), (3, .int .i64 (i : Int)), (8, .ptr (H.length + 1) 0 5 0 0), (12, .ptr (H.length + 2) 0 5 0 0)])
    (mu := fun k => l.length - k) (I := fun k => k ≤ l.length - 1) (evCode (evC cprog) itLim c74_l0) ?_ 0 st (Nat.zero_le _) hE hH z hz
  · obtain ⟨_, rfl, T, rfl, hT⟩ := L
    exact ⟨T, rfl, hT⟩
  · intro k hk E hE
    have hwl : IntKind.i64.wrap ((l.length : Int) - 1) = (l.length : Int) - 1 := wrap_i64 (by omega) (by omega)
    by_cases hlt : k < l.length - 1
    · have hkl : (k : Int) < (l.length : Int) - 1 := by omega
      have hav' : av = eArs l := by
        rcases hav with h | h
        · exact h
        · rw [h] at hlt; simp at hlt
      subst hav'
      obtain ⟨a, ha⟩ : ∃ a, l[k]? = some a := ⟨_, List.getElem?_eq_getElem (by omega)⟩
      have haa := aAr ha
      have hao := hok a (List.mem_of_getElem? ha)
      have hw := wrapS (i := k) (n := l.length) (by omega) (by omega)
      have h99 : ∀ H, cal (evC cprog) false 99 [.agg (rAr a), .int .u8 68] H = some (.bool (hasC a 68), H) := fun H => f99 a hao.ok.codes 68 H
      have hst : catL ⟨#[]⟩ (((zArs b.types l).take (k + 1)).flatMap (selZ f (pth b.types f i))) = catL (catL ⟨#[]⟩ (((zArs b.types l).take k).flatMap (selZ f (pth b.types f i)))) (selZ f (pth b.types f i) (tyIx b.types a.seg, a)) := by
        rw [List.take_add_one, zArs_at ha hlt, List.flatMap_append, catL_app]; simp
      have honk := hon a (List.mem_of_getElem? ha)
      have hsz0 : (catL ⟨#[]⟩ (((zArs b.types l).take k).flatMap (selZ f (pth b.types f i)))).size ≤ 1000000 := by
        have h7 := catL_size (((zArs b.types l).take k).flatMap (selZ f (pth b.types f i))) ⟨#[]⟩ 1000 fun x hx => by
          obtain ⟨z, hz', hxz⟩ := List.mem_flatMap.1 hx
          obtain ⟨y, hy, rfl⟩ := List.mem_map.1 (List.mem_of_mem_take hz')
          have hyl := List.mem_of_mem_take hy
          have h0 := hon y hyl
          obtain ⟨j, q1, q2, q3, _⟩ := onI_in hi h0
          rw [onI, pthI_nat] at q1
          unfold selZ at hxz
          split at hxz
          · simp only [List.mem_singleton] at hxz
            rw [hxz, q1]
            exact dat_small hr q3
          · cases hxz
        have h8 := selZ_one f (pth b.types f i) ((zArs b.types l).take k)
        rw [List.length_take] at h8
        have e0 : (⟨#[]⟩ : ByteArray).size = 0 := rfl
        rw [e0] at h7
        have : (((zArs b.types l).take k).flatMap (selZ f (pth b.types f i))).length * 1000 ≤ 1000 * 1000 := Nat.mul_le_mul_right _ (by omega)
        omega
      simp only [rAr] at h99
      cases hD : hasC a 68 with
      | false =>
        rw [hD] at h99
        have es : selZ f (pth b.types f i) (tyIx b.types a.seg, a) = [] := by unfold selZ; rw [if_neg (by rw [hD]; decide)]
        rw [es] at hst
        simp only [c74_l0, hE, hlen, hwl, hkl, haa, rAr, h99, hw, evX, Int.reduceEq, Int.reduceLT, Int.reduceLE, Nat.reduceMul, Nat.reduceMod, evW, fn_eq, evR, Nat.reduceAdd, Nat.reduceLT, Nat.reduceLeDiff, reduceIte, Nat.reduceEqDiff, reduceCtorEq, argEnv, eq_self, if_true, if_false]
        exact q_next (k + 1) (by rfl) (by simp only [hst]; rfl) (by omega) (by omega) fun r h => h
      | true =>
        rw [hD] at h99
        obtain ⟨j, q1, q2, q3, q4⟩ := onI_in hi honk
        rw [onI, pthI_nat] at q1
        have es : selZ f (pth b.types f i) (tyIx b.types a.seg, a) = [dat f (j : Int)] := by unfold selZ; rw [if_pos hD, q1]
        rw [es] at hst
        obtain ⟨x, hx⟩ : ∃ x, f[j]? = some x := ⟨_, List.getElem?_eq_getElem q3⟩
        have hax := aItem hx
        have hds := dat_small hr q3
        rw [dat_at hx] at hst hds
        have h73 := f73 b hr.base hr.valid a hao.ty
        have h71 := f71 f (pth b.types f i) (pth_in hi) (by have := fk_len hr hi; omega) (tyIx b.types a.seg)
        rw [q1] at h71
        simp only [eBase, rAr] at h73
        generalize catL ⟨#[]⟩ (((zArs b.types l).take k).flatMap (selZ f (pth b.types f i))) = S at *
        have hsz : S.size + x.data.size ≤ 9223372036854775807 := by omega
        simp only [bAn, bBase, bAn0] at hE ⊢
        simp only [c74_l0, hE, hlen, hwl, hkl, haa, rAr, h99, h73, h71, hax, rItem, hsz, hw, evX, Int.reduceEq, Int.reduceLT, Int.reduceLE, Nat.reduceMul, Nat.reduceMod, evW, fn_eq, evR, Nat.reduceAdd, Nat.reduceLT, Nat.reduceLeDiff, reduceIte, Nat.reduceEqDiff, reduceCtorEq, argEnv, eq_self, if_true, if_false]
        exact q_next (k + 1) (by rfl) (by simp only [hst]; rfl) (by omega) (by omega) fun r h => h
    · have hkl : ¬ (k : Int) < (l.length : Int) - 1 := by omega
      have et : (zArs b.types l).take k = zArs b.types l := List.take_of_length_le (by rw [zArs_len]; omega)
      rw [et]
      simp only [c74_l0, hE, hlen, hwl, hkl, evX, Int.reduceEq, Int.reduceLT, Int.reduceLE, Nat.reduceMul, Nat.reduceMod, evW, fn_eq, evR, Nat.reduceAdd, Nat.reduceLT, Nat.reduceLeDiff, reduceIte, Nat.reduceEqDiff, reduceCtorEq, argEnv, eq_self, if_true, if_false]
      exact q_exit ⟨_, rfl, by rfl⟩
set_option maxHeartbeats 8000000 in
theorem f74 (b : Base) (f : List Item) (hr : Right b f) (l : List Ar) (hl5 : l.length ≤ 1000) (hok : ∀ a ∈ l, ArOk b.types a) {ab : Int} (hR : Rise b.types ab l) (av : AV) (hav : av = eArs l ∨ l = []) (hlen : lenK false (some av) = some (.int .i64 (l.length : Int))) (i : Nat) (hi : i < f.length) (hon : ∀ a ∈ l, 0 ≤ onI b f (i : Int) (tyIx b.types a.seg)) (H : Heap) :
    cal (evC cprog) false 74 [eBase b, eItems f, av, .int .i64 (i : Int)] H = some (eAn (ansB b f l i), H) := by
  rw [cal_of at74]
  have h72 := f72 b f hr i hi
  have h22 := f22 b f hr i hi
  have hplen := (sIs [] (pth b.types f i)).len
  simp only [List.length_map] at hplen
  obtain ⟨x, k, t, hx, hk', hkl, ht, _⟩ := hr.item hi
  have hax := aItem hx
  have hat := aTy ht
  rw [← hk'] at hat
  have hdx := dat_at hx
  have hb2 := fun H => b2s_U H (keyU (fkL b f i))
  have hcu : (eU (keyU (fkL b f i))).cells = [eU (keyU (fkL b f i))] := rfl
  have hds := dat_small hr hi
  rw [hdx] at hds
  have hcs : (catL ⟨#[]⟩ (datL b f l i)).size ≤ 1000000 := by
    have := selP_size hr hi (zArs b.types l) (pth b.types f i).length
    rwa [List.take_length] at this
  have hsz : (catL ⟨#[]⟩ (datL b f l i)).size + x.data.size ≤ 9223372036854775807 := by omega
  have hans : ansB b f l i = ⟨sWell, t.name, ((pth b.types f i).length : Int), ⟨(keyU (fkL b f i)).toArray⟩, catL ⟨#[]⟩ (datL b f l i) ++ x.data⟩ := by
    unfold ansB
    rw [catL_app, hdx, typ_at hx, hk', tyOf_at ht]; rfl
  rw [hans]
  have hde := datZ_eq hr hR hi hon
  simp only [eBase] at h72 h22
  simp only [c74, eBase, h72, h22, hplen, hax, rItem, hat, rTy, hb2, evX, Int.reduceEq, Int.reduceLT, Int.reduceLE, Nat.reduceMul, Nat.reduceMod, evW, fn_eq, evR, Nat.reduceAdd, Nat.reduceLT, Nat.reduceLeDiff, reduceIte, Nat.reduceEqDiff, reduceCtorEq, argEnv, eq_self, if_true, if_false]
  generalize hz : itLim _ _ = z
  obtain ⟨T, rfl, hT⟩ := l74 b f hr l hl5 hok av hav hlen i hi hon t.name ⟨(keyU (fkL b f i)).toArray⟩ ((pth b.types f i).length : Int) H _ (by rfl) (by simp [bBase, bAn0, bAn, sWell]) z hz
  clear hz
  rw [hde]
  simp only [bAn, bBase, bAn0]
  generalize catL ⟨#[]⟩ (datL b f l i) = S at *
  simp only [hT, hax, rItem, hsz, evX, Int.reduceEq, Int.reduceLT, Int.reduceLE, Nat.reduceMul, Nat.reduceMod, evW, fn_eq, evR, Nat.reduceAdd, Nat.reduceLT, Nat.reduceLeDiff, reduceIte, Nat.reduceEqDiff, reduceCtorEq, argEnv, eq_self, if_true, if_false]
  rfl
end Go.Proofs.YtbdpceigmnpoaaaGreatDoor.Code

/- call: the first state with a forest, states that are right and the same, of the program and of the document. -/
set_option linter.unusedSimpArgs false
set_option linter.unusedVariables false
namespace Go.Proofs.YtbdpceigmnpoaaaGreatDoor.Code
open Go.Proofs.YtbdpceigmnpoaaaGreatDoor.Ev

noncomputable def forE (b : Base) (f : List Item) : Int := if validB b = true then (if forestOk b.types f = true then 0 else 140) else 100
end Go.Proofs.YtbdpceigmnpoaaaGreatDoor.Code

/- call: Satisfies, Search and Answer, of the program and of the document. -/
set_option linter.unusedSimpArgs false
set_option linter.unusedVariables false
namespace Go.Proofs.YtbdpceigmnpoaaaGreatDoor.Code
open Go.Proofs.YtbdpceigmnpoaaaGreatDoor.Ev

noncomputable def askE (b : Base) (f : List Item) (l : List Ar) : Int := if forE b f = 0 then (if chkS b.types l = sWell then 0 else 2) else forE b f
theorem forE_right {b : Base} (hb : b.Ok) {f : List Item} (h : forE b f = 0) : Right b f := by
  unfold forE at h
  split at h
  · rename_i h1
    split at h
    · rename_i h2; exact ⟨hb, h1, h2⟩
    · cases h
  · cases h
theorem askE_right {b : Base} (hb : b.Ok) {f : List Item} {l : List Ar} (h : askE b f l = 0) : Right b f ∧ chkS b.types l = sWell := by
  unfold askE at h
  split at h
  · rename_i h1
    split at h
    · rename_i h2; exact ⟨forE_right hb h1, h2⟩
    · cases h
  · rename_i h1; exact absurd h h1
theorem chkS_rise {ts : List Ty} {l : List Ar} (h : chkS ts l = sWell) : Rise ts (-1) l ∧ l.length ≤ 5 := by
  unfold chkS at h
  split at h
  · cases h
  · rename_i h5; exact ⟨chkA_rise h, by omega⟩
theorem forE_of {b : Base} {f : List Item} : forE b f = if validB b = true then (if forestOk b.types f = true then 0 else 140) else 100 := rfl
set_option maxHeartbeats 4000000 in
theorem f61 (b : Base) (hb : b.Ok) (f : List Item) (l : List Ar) (hok : ∀ a ∈ l, a.Ok) (H : Heap) :
    (askE b f l = 0 → ∃ Z, cal (evC cprog) false 61 [eBase b, eItems f, eArs l] H = some (.tup [.ptr (H.length + 2) 0 6 0 0, eIs (tysA b.types l), .int .i64 0], H ++ Z) ∧ Bk b f (H.length + 2) (H ++ Z)) ∧
    (askE b f l ≠ 0 → cal (evC cprog) false 61 [eBase b, eItems f, eArs l] H = some (.tup [.nilptr, .nils, .int .i64 (askE b f l)], H)) := by
  have h41 := f41 b hb f
  cases hv : validB b with
  | false =>
    have e0 : forE b f = 100 := by rw [forE_of, hv]; rfl
    have e : askE b f l = 100 := by unfold askE; rw [e0]; rfl
    rw [hv] at h41
    simp only [eBase, bEr, Bool.false_and, Bool.false_eq_true, if_false] at h41
    refine ⟨fun h => (by rw [e] at h; cases h), fun _ => ?_⟩
    rw [e, cal_of at61]
    simp only [c61, eBase, h41, evX, Int.reduceEq, Int.reduceLT, Int.reduceLE, Nat.reduceMul, Nat.reduceMod, evW, fn_eq, evR, Nat.reduceAdd, Nat.reduceLT, Nat.reduceLeDiff, reduceIte, Nat.reduceEqDiff, reduceCtorEq, argEnv, eq_self, if_true, if_false]
  | true =>
    cases hf : forestOk b.types f with
    | false =>
      have e0 : forE b f = 140 := by rw [forE_of, hv, hf]; rfl
      have e : askE b f l = 140 := by unfold askE; rw [e0]; rfl
      rw [hv, hf] at h41
      simp only [eBase, bEr, Bool.true_and, if_true] at h41
      refine ⟨fun h => (by rw [e] at h; cases h), fun _ => ?_⟩
      rw [e, cal_of at61]
      simp only [c61, eBase, h41, evX, Int.reduceEq, Int.reduceLT, Int.reduceLE, Nat.reduceMul, Nat.reduceMod, evW, fn_eq, evR, Nat.reduceAdd, Nat.reduceLT, Nat.reduceLeDiff, reduceIte, Nat.reduceEqDiff, reduceCtorEq, argEnv, eq_self, if_true, if_false]
    | true =>
      have e0 : forE b f = 0 := by rw [forE_of, hv, hf]; rfl
      rw [hv, hf] at h41
      simp only [eBase, bEr, Bool.true_and, if_true] at h41
      have h86 := f86 b hb hv l hok
      by_cases hs : chkS b.types l = sWell
      · have e : askE b f l = 0 := by unfold askE; rw [if_pos e0, if_pos hs]
        refine ⟨fun _ => ?_, fun h => absurd e h⟩
        obtain ⟨Z, h105, hB⟩ := f105 b f (forE_right hb e0) (H ++ [bBase b])
        rw [if_pos hs] at h86
        simp only [eBase, bBase, List.length_append, List.length_cons, List.length_nil, Nat.zero_add, Nat.add_assoc, Nat.reduceAdd, List.append_assoc, List.cons_append, List.nil_append] at h105 hB h86
        refine ⟨_, ?_, hB⟩
        rw [cal_of at61]
        have hcu : (eIs (tysA b.types l)).cells = [eIs (tysA b.types l)] := rfl
        have htu : (eIs (tysA b.types l)).isTup = false := rfl
        have hnr : noRef1 (.ptr (H.length + 2) 0 6 0 0) = false := rfl
        simp only [c61, eBase, h41, h86, h105, hcu, htu, hnr, evX, Int.reduceEq, Int.reduceLT, Int.reduceLE, Nat.reduceMul, Nat.reduceMod, evW, fn_eq, evR, Nat.reduceAdd, Nat.reduceLT, Nat.reduceLeDiff, reduceIte, Nat.reduceEqDiff, reduceCtorEq, argEnv, eq_self, if_true, if_false]
      · have e : askE b f l = 2 := by unfold askE; rw [if_pos e0, if_neg hs]
        rw [if_neg hs] at h86
        simp only [eBase] at h86
        refine ⟨fun h => (by rw [e] at h; cases h), fun _ => ?_⟩
        rw [e, cal_of at61]
        have hcu : (eIs []).cells = [eIs []] := rfl
        simp only [c61, eBase, h41, h86, evX, Int.reduceEq, Int.reduceLT, Int.reduceLE, Nat.reduceMul, Nat.reduceMod, evW, fn_eq, evR, Nat.reduceAdd, Nat.reduceLT, Nat.reduceLeDiff, reduceIte, Nat.reduceEqDiff, reduceCtorEq, argEnv, eq_self, if_true, if_false]
theorem f63 (b : Base) (hb : b.Ok) (f : List Item) (hfl : f.length < 9223372036854775807) (l : List Ar) (hok : ∀ a ∈ l, a.Ok) (r : Bool) (H : Heap) :
    cal (evC cprog) false 63 [eBase b, eItems f, eArs l, .bool r] H = some (.int .i64 (if askE b f l = 0 then (if r = true then 0 else 2) else askE b f l), H) := by
  rw [cal_of at63]
  have h43 := f43 b hb
  have h19 := fun H => f19 b hb f hfl .nils [] (by simp) H (nil_slat H)
  cases hv : validB b with
  | false =>
    have e0 : forE b f = 100 := by rw [forE_of, hv]; rfl
    have e : askE b f l = 100 := by unfold askE; rw [e0]; rfl
    rw [hv] at h43
    simp only [eBase] at h43
    rw [e, if_neg (by decide)]
    simp only [c63, eBase, h43, evX, Int.reduceEq, Int.reduceLT, Int.reduceLE, Nat.reduceMul, Nat.reduceMod, evW, fn_eq, evR, Nat.reduceAdd, Nat.reduceLT, Nat.reduceLeDiff, reduceIte, Nat.reduceEqDiff, reduceCtorEq, argEnv, eq_self, if_true, if_false]
  | true =>
    rw [hv] at h43
    cases hf : forestOk b.types f with
    | false =>
      have e0 : forE b f = 140 := by rw [forE_of, hv, hf]; rfl
      have e : askE b f l = 140 := by unfold askE; rw [e0]; rfl
      have e1 : errF b f [] = 120 := by simp [errF, hv, hf]
      rw [e1] at h19
      simp only [eBase] at h43 h19
      rw [e, if_neg (by decide)]
      simp only [c63, eBase, h43, h19, evX, Int.reduceEq, Int.reduceLT, Int.reduceLE, Nat.reduceMul, Nat.reduceMod, evW, fn_eq, evR, Nat.reduceAdd, Nat.reduceLT, Nat.reduceLeDiff, reduceIte, Nat.reduceEqDiff, reduceCtorEq, argEnv, eq_self, if_true, if_false]
    | true =>
      have e0 : forE b f = 0 := by rw [forE_of, hv, hf]; rfl
      have e1 : errF b f [] = 0 := by simp [errF, hv, hf]
      rw [e1] at h19
      have h32 := f32 b hb hv l hok
      simp only [eBase] at h43 h19 h32
      by_cases hs : chkS b.types l = sWell
      · have e : askE b f l = 0 := by unfold askE; rw [if_pos e0, if_pos hs]
        rw [hs] at h32
        simp only [sWell] at h32
        rw [e, if_pos rfl]
        cases r with
        | true => simp only [c63, eBase, h43, h19, h32, evX, Int.reduceEq, Int.reduceLT, Int.reduceLE, Nat.reduceMul, Nat.reduceMod, evW, fn_eq, evR, Nat.reduceAdd, Nat.reduceLT, Nat.reduceLeDiff, reduceIte, Nat.reduceEqDiff, reduceCtorEq, argEnv, eq_self, if_true, if_false]
        | false => simp only [c63, eBase, h43, h19, h32, evX, Int.reduceEq, Int.reduceLT, Int.reduceLE, Nat.reduceMul, Nat.reduceMod, evW, fn_eq, evR, Nat.reduceAdd, Nat.reduceLT, Nat.reduceLeDiff, reduceIte, Nat.reduceEqDiff, reduceCtorEq, argEnv, eq_self, if_true, if_false]
      · have e : askE b f l = 2 := by unfold askE; rw [if_pos e0, if_neg hs]
        have hs' : (chkS b.types l = (⟨#[32, 32]⟩ : ByteArray)) = False := eq_false hs
        rw [e, if_neg (by decide)]
        simp only [c63, eBase, h43, h19, h32, hs', evX, Int.reduceEq, Int.reduceLT, Int.reduceLE, Nat.reduceMul, Nat.reduceMod, evW, fn_eq, evR, Nat.reduceAdd, Nat.reduceLT, Nat.reduceLeDiff, reduceIte, Nat.reduceEqDiff, reduceCtorEq, argEnv, eq_self, if_true, if_false]
def inF (f : List Item) (i : Int) : Bool := decide (0 ≤ i) && decide (i < (f.length : Int))
def inG (f : List Item) (i : Int) : Bool := decide (0 ≤ i) && decide (i ≤ (f.length : Int))
noncomputable def satE (b : Base) (f : List Item) (l : List Ar) (i : Int) : Int := if askE b f l = 0 then (if inF f i = true then 0 else 2) else askE b f l
noncomputable def satV (b : Base) (f : List Item) (l : List Ar) (i : Int) : Bool := if satE b f l i = 0 then satB b f l i.toNat else false
theorem f33 (b : Base) (hb : b.Ok) (f : List Item) (l : List Ar) (hok : ∀ a ∈ l, a.Ok) (i : Int) (H : Heap) : cal (evC cprog) false 33 [eBase b, eItems f, eArs l, .int .i64 i] H = some (.tup [.bool (satV b f l i), .int .i64 (satE b f l i)], H) := by
  rw [cal_of at33]
  have hlen := (sItems [] f).len
  simp only [List.length_map] at hlen
  by_cases h0 : askE b f l = 0
  · obtain ⟨Z, h61, hB⟩ := (f61 b hb f l hok (H ++ [bBase b])).1 h0
    obtain ⟨hr, hs⟩ := askE_right hb h0
    obtain ⟨hR, hl5⟩ := chkS_rise hs
    simp only [eBase, bBase, List.length_append, List.length_cons, List.length_nil, Nat.zero_add, Nat.add_assoc, Nat.reduceAdd, List.append_assoc, List.cons_append, List.nil_append] at h61 hB
    by_cases i1 : i < 0
    · have e : satE b f l i = 2 := by unfold satE; rw [if_pos h0, if_neg]; simp [inF]; omega
      rw [satV, e, if_neg (by decide)]
      simp only [c33, eBase, h61, i1, evX, Int.reduceEq, Int.reduceLT, Int.reduceLE, Nat.reduceMul, Nat.reduceMod, evW, fn_eq, evR, Nat.reduceAdd, Nat.reduceLT, Nat.reduceLeDiff, reduceIte, Nat.reduceEqDiff, reduceCtorEq, argEnv, eq_self, if_true, if_false]
    by_cases i2 : (f.length : Int) ≤ i
    · have e : satE b f l i = 2 := by unfold satE; rw [if_pos h0, if_neg]; simp [inF]; omega
      rw [satV, e, if_neg (by decide)]
      simp only [c33, eBase, h61, hlen, i1, i2, evX, Int.reduceEq, Int.reduceLT, Int.reduceLE, Nat.reduceMul, Nat.reduceMod, evW, fn_eq, evR, Nat.reduceAdd, Nat.reduceLT, Nat.reduceLeDiff, reduceIte, Nat.reduceEqDiff, reduceCtorEq, argEnv, eq_self, if_true, if_false]
    have e : satE b f l i = 0 := by unfold satE; rw [if_pos h0, if_pos]; simp [inF]; omega
    rw [satV, e, if_pos rfl]
    obtain ⟨n, rfl⟩ : ∃ n : Nat, i = (n : Int) := ⟨i.toNat, by omega⟩
    have h62 := f62 b f hr _ _ hB l (by omega) (rise_ok hR hok) n (by omega)
    rw [Int.toNat_natCast]
    simp only [c33, eBase, h61, hlen, i1, i2, h62, evX, Int.reduceEq, Int.reduceLT, Int.reduceLE, Nat.reduceMul, Nat.reduceMod, evW, fn_eq, evR, Nat.reduceAdd, Nat.reduceLT, Nat.reduceLeDiff, reduceIte, Nat.reduceEqDiff, reduceCtorEq, argEnv, eq_self, if_true, if_false]
  · have h61 := (f61 b hb f l hok (H ++ [bBase b])).2 h0
    have e : satE b f l i = askE b f l := if_neg h0
    rw [satV, e, if_neg h0]
    simp only [eBase, bBase] at h61
    have h0' : (askE b f l = 0) = False := eq_false h0
    generalize askE b f l = q at *
    simp only [c33, eBase, h61, h0', evX, Int.reduceEq, Int.reduceLT, Int.reduceLE, Nat.reduceMul, Nat.reduceMod, evW, fn_eq, evR, Nat.reduceAdd, Nat.reduceLT, Nat.reduceLeDiff, reduceIte, Nat.reduceEqDiff, reduceCtorEq, argEnv, eq_self, if_true, if_false]
theorem f34 (b : Base) (hb : b.Ok) (f : List Item) (hfl : f.length < 9223372036854775807) (l : List Ar) (hok : ∀ a ∈ l, a.Ok) (i : Int) (H : Heap) : cal (evC cprog) false 34 [eBase b, eItems f, eArs l, .int .i64 i] H = some (.tup [.bool (satV b f l i), .int .i64 (satE b f l i)], H) := by
  rw [cal_of at34]
  have hlen := (sItems [] f).len
  simp only [List.length_map] at hlen
  have h63 : ∀ H, cal (evC cprog) false 63 [eBase b, eItems f, eArs l, .bool (inF f i)] H = some (.int .i64 (satE b f l i), H) := f63 b hb f hfl l hok (inF f i)
  simp only [eBase] at h63
  have hin : inF f i = (decide (0 ≤ i) && decide (i < (f.length : Int))) := rfl
  by_cases h0 : satE b f l i = 0
  · have ha : askE b f l = 0 := by
      unfold satE at h0
      split at h0
      · assumption
      · rename_i h; exact absurd h0 h
    have hi : inF f i = true := by
      unfold satE at h0
      rw [if_pos ha] at h0
      split at h0
      · assumption
      · cases h0
    obtain ⟨hr, hs⟩ := askE_right hb ha
    obtain ⟨hR, hl5⟩ := chkS_rise hs
    rw [satV, if_pos h0, h0]
    rw [h0, hi] at h63
    simp only [inF, Bool.and_eq_true, decide_eq_true_eq] at hi
    obtain ⟨n, rfl⟩ : ∃ n : Nat, i = (n : Int) := ⟨i.toNat, by omega⟩
    have h64 := f64 b f hr l (by omega) (rise_ok hR hok) n (by omega)
    rw [Int.toNat_natCast]
    simp only [eBase] at h64
    simp only [c34, eBase, hlen, hi.1, hi.2, h63, h64, evX, Int.reduceEq, Int.reduceLT, Int.reduceLE, Nat.reduceMul, Nat.reduceMod, evW, fn_eq, evR, Nat.reduceAdd, Nat.reduceLT, Nat.reduceLeDiff, reduceIte, Nat.reduceEqDiff, reduceCtorEq, argEnv, eq_self, if_true, if_false]
  · have h0' : (satE b f l i = 0) = False := eq_false h0
    rw [satV, if_neg h0]
    rw [hin] at h63
    generalize satE b f l i = q at *
    by_cases i1 : 0 ≤ i
    · by_cases i2 : i < (f.length : Int)
      · rw [decide_eq_true i1, decide_eq_true i2] at h63
        simp only [Bool.and_self, Bool.true_and, Bool.and_true, Bool.false_and, Bool.and_false] at h63
        simp only [c34, eBase, hlen, i1, i2, h63, h0', evX, Int.reduceEq, Int.reduceLT, Int.reduceLE, Nat.reduceMul, Nat.reduceMod, evW, fn_eq, evR, Nat.reduceAdd, Nat.reduceLT, Nat.reduceLeDiff, reduceIte, Nat.reduceEqDiff, reduceCtorEq, argEnv, eq_self, if_true, if_false]
      · rw [decide_eq_true i1, decide_eq_false i2] at h63
        simp only [Bool.and_self, Bool.true_and, Bool.and_true, Bool.false_and, Bool.and_false] at h63
        simp only [c34, eBase, hlen, i1, i2, h63, h0', evX, Int.reduceEq, Int.reduceLT, Int.reduceLE, Nat.reduceMul, Nat.reduceMod, evW, fn_eq, evR, Nat.reduceAdd, Nat.reduceLT, Nat.reduceLeDiff, reduceIte, Nat.reduceEqDiff, reduceCtorEq, argEnv, eq_self, if_true, if_false]
    · rw [decide_eq_false i1] at h63
      simp only [Bool.and_self, Bool.true_and, Bool.and_true, Bool.false_and, Bool.and_false] at h63
      simp only [c34, eBase, hlen, i1, h63, h0', evX, Int.reduceEq, Int.reduceLT, Int.reduceLE, Nat.reduceMul, Nat.reduceMod, evW, fn_eq, evR, Nat.reduceAdd, Nat.reduceLT, Nat.reduceLeDiff, reduceIte, Nat.reduceEqDiff, reduceCtorEq, argEnv, eq_self, if_true, if_false]
def inR (f : List Item) (i j : Int) : Bool := inG f i && inG f j
noncomputable def seaE (b : Base) (f : List Item) (l : List Ar) (i j : Int) : Int := if askE b f l = 0 then (if inR f i j = true then 0 else 2) else askE b f l
noncomputable def seaV (b : Base) (f : List Item) (l : List Ar) (i j : Int) : Int := if seaE b f l i j = 0 then srchB b f l i j else 0
set_option maxHeartbeats 4000000 in
theorem f35 (b : Base) (hb : b.Ok) (f : List Item) (l : List Ar) (hok : ∀ a ∈ l, a.Ok) (i j : Int) (H : Heap) : cal (evC cprog) false 35 [eBase b, eItems f, eArs l, .int .i64 i, .int .i64 j] H = some (.tup [.int .i64 (seaV b f l i j), .int .i64 (seaE b f l i j)], H) := by
  rw [cal_of at35]
  have hlen := (sItems [] f).len
  simp only [List.length_map] at hlen
  by_cases h0 : askE b f l = 0
  · obtain ⟨Z, h61, hB⟩ := (f61 b hb f l hok (H ++ [bBase b])).1 h0
    obtain ⟨hr, hs⟩ := askE_right hb h0
    obtain ⟨hR, hl5⟩ := chkS_rise hs
    simp only [eBase, bBase, List.length_append, List.length_cons, List.length_nil, Nat.zero_add, Nat.add_assoc, Nat.reduceAdd, List.append_assoc, List.cons_append, List.nil_append] at h61 hB
    have bad : ∀ h : inR f i j = false, seaE b f l i j = 2 := fun h => by unfold seaE; rw [if_pos h0, if_neg (by rw [h]; decide)]
    by_cases i1 : i < 0
    · have e := bad (by simp [inR, inG]; omega)
      rw [seaV, e, if_neg (by decide)]
      simp only [c35, eBase, h61, hlen, i1, evX, Int.reduceEq, Int.reduceLT, Int.reduceLE, Nat.reduceMul, Nat.reduceMod, evW, fn_eq, evR, Nat.reduceAdd, Nat.reduceLT, Nat.reduceLeDiff, reduceIte, Nat.reduceEqDiff, reduceCtorEq, argEnv, eq_self, if_true, if_false]
    by_cases i2 : (f.length : Int) < i
    · have e := bad (by simp [inR, inG]; omega)
      rw [seaV, e, if_neg (by decide)]
      simp only [c35, eBase, h61, hlen, i1, i2, evX, Int.reduceEq, Int.reduceLT, Int.reduceLE, Nat.reduceMul, Nat.reduceMod, evW, fn_eq, evR, Nat.reduceAdd, Nat.reduceLT, Nat.reduceLeDiff, reduceIte, Nat.reduceEqDiff, reduceCtorEq, argEnv, eq_self, if_true, if_false]
    by_cases i3 : j < 0
    · have e := bad (by simp [inR, inG]; omega)
      rw [seaV, e, if_neg (by decide)]
      simp only [c35, eBase, h61, hlen, i1, i2, i3, evX, Int.reduceEq, Int.reduceLT, Int.reduceLE, Nat.reduceMul, Nat.reduceMod, evW, fn_eq, evR, Nat.reduceAdd, Nat.reduceLT, Nat.reduceLeDiff, reduceIte, Nat.reduceEqDiff, reduceCtorEq, argEnv, eq_self, if_true, if_false]
    by_cases i4 : (f.length : Int) < j
    · have e := bad (by simp [inR, inG]; omega)
      rw [seaV, e, if_neg (by decide)]
      simp only [c35, eBase, h61, hlen, i1, i2, i3, i4, evX, Int.reduceEq, Int.reduceLT, Int.reduceLE, Nat.reduceMul, Nat.reduceMod, evW, fn_eq, evR, Nat.reduceAdd, Nat.reduceLT, Nat.reduceLeDiff, reduceIte, Nat.reduceEqDiff, reduceCtorEq, argEnv, eq_self, if_true, if_false]
    have e : seaE b f l i j = 0 := by unfold seaE; rw [if_pos h0, if_pos]; simp [inR, inG]; omega
    rw [seaV, e, if_pos rfl]
    have h65 := f65 b f hr _ _ hB l (by omega) (rise_ok hR hok) i j (by omega) (by omega)
    generalize srchB b f l i j = q at *
    simp only [c35, eBase, h61, hlen, i1, i2, i3, i4, h65, evX, Int.reduceEq, Int.reduceLT, Int.reduceLE, Nat.reduceMul, Nat.reduceMod, evW, fn_eq, evR, Nat.reduceAdd, Nat.reduceLT, Nat.reduceLeDiff, reduceIte, Nat.reduceEqDiff, reduceCtorEq, argEnv, eq_self, if_true, if_false]
  · have h61 := (f61 b hb f l hok (H ++ [bBase b])).2 h0
    have e : seaE b f l i j = askE b f l := if_neg h0
    rw [seaV, e, if_neg h0]
    simp only [eBase, bBase] at h61
    have h0' : (askE b f l = 0) = False := eq_false h0
    generalize askE b f l = q at *
    simp only [c35, eBase, h61, h0', evX, Int.reduceEq, Int.reduceLT, Int.reduceLE, Nat.reduceMul, Nat.reduceMod, evW, fn_eq, evR, Nat.reduceAdd, Nat.reduceLT, Nat.reduceLeDiff, reduceIte, Nat.reduceEqDiff, reduceCtorEq, argEnv, eq_self, if_true, if_false]
set_option maxHeartbeats 4000000 in
theorem f36 (b : Base) (hb : b.Ok) (f : List Item) (hfl : f.length < 9223372036854775807) (l : List Ar) (hok : ∀ a ∈ l, a.Ok) (i j : Int) (H : Heap) : cal (evC cprog) false 36 [eBase b, eItems f, eArs l, .int .i64 i, .int .i64 j] H = some (.tup [.int .i64 (seaV b f l i j), .int .i64 (seaE b f l i j)], H) := by
  rw [cal_of at36]
  have hlen := (sItems [] f).len
  simp only [List.length_map] at hlen
  have h63 : ∀ H, cal (evC cprog) false 63 [eBase b, eItems f, eArs l, .bool (inR f i j)] H = some (.int .i64 (seaE b f l i j), H) := f63 b hb f hfl l hok (inR f i j)
  simp only [eBase] at h63
  have hin : inR f i j = (decide (0 ≤ i) && decide (i ≤ (f.length : Int)) && (decide (0 ≤ j) && decide (j ≤ (f.length : Int)))) := rfl
  by_cases h0 : seaE b f l i j = 0
  · have ha : askE b f l = 0 := by
      unfold seaE at h0
      split at h0
      · assumption
      · rename_i h; exact absurd h0 h
    have hi : inR f i j = true := by
      unfold seaE at h0
      rw [if_pos ha] at h0
      split at h0
      · assumption
      · cases h0
    obtain ⟨hr, hs⟩ := askE_right hb ha
    obtain ⟨hR, hl5⟩ := chkS_rise hs
    rw [seaV, if_pos h0, h0]
    rw [h0, hi] at h63
    simp only [inR, inG, Bool.and_eq_true, decide_eq_true_eq] at hi
    obtain ⟨⟨i1, i2⟩, i3, i4⟩ := hi
    have h66 := f66 b f hr l (by omega) (rise_ok hR hok) i j i1 i4
    simp only [eBase] at h66
    generalize srchB b f l i j = q at *
    simp only [c36, eBase, hlen, i1, i2, i3, i4, h63, h66, evX, Int.reduceEq, Int.reduceLT, Int.reduceLE, Nat.reduceMul, Nat.reduceMod, evW, fn_eq, evR, Nat.reduceAdd, Nat.reduceLT, Nat.reduceLeDiff, reduceIte, Nat.reduceEqDiff, reduceCtorEq, argEnv, eq_self, if_true, if_false]
  · have h0' : (seaE b f l i j = 0) = False := eq_false h0
    rw [seaV, if_neg h0]
    rw [hin] at h63
    generalize seaE b f l i j = q at *
    by_cases i1 : 0 ≤ i
    · by_cases i2 : i ≤ (f.length : Int)
      · by_cases i3 : 0 ≤ j
        · by_cases i4 : j ≤ (f.length : Int)
          · rw [decide_eq_true i1, decide_eq_true i2, decide_eq_true i3, decide_eq_true i4] at h63
            simp only [Bool.and_self, Bool.true_and, Bool.and_true, Bool.false_and, Bool.and_false] at h63
            simp only [c36, eBase, hlen, i1, i2, i3, i4, h63, h0', evX, Int.reduceEq, Int.reduceLT, Int.reduceLE, Nat.reduceMul, Nat.reduceMod, evW, fn_eq, evR, Nat.reduceAdd, Nat.reduceLT, Nat.reduceLeDiff, reduceIte, Nat.reduceEqDiff, reduceCtorEq, argEnv, eq_self, if_true, if_false]
          · rw [decide_eq_true i1, decide_eq_true i2, decide_eq_true i3, decide_eq_false i4] at h63
            simp only [Bool.and_self, Bool.true_and, Bool.and_true, Bool.false_and, Bool.and_false] at h63
            simp only [c36, eBase, hlen, i1, i2, i3, i4, h63, h0', evX, Int.reduceEq, Int.reduceLT, Int.reduceLE, Nat.reduceMul, Nat.reduceMod, evW, fn_eq, evR, Nat.reduceAdd, Nat.reduceLT, Nat.reduceLeDiff, reduceIte, Nat.reduceEqDiff, reduceCtorEq, argEnv, eq_self, if_true, if_false]
        · rw [decide_eq_true i1, decide_eq_true i2, decide_eq_false i3] at h63
          simp only [Bool.and_self, Bool.true_and, Bool.and_true, Bool.false_and, Bool.and_false] at h63
          simp only [c36, eBase, hlen, i1, i2, i3, h63, h0', evX, Int.reduceEq, Int.reduceLT, Int.reduceLE, Nat.reduceMul, Nat.reduceMod, evW, fn_eq, evR, Nat.reduceAdd, Nat.reduceLT, Nat.reduceLeDiff, reduceIte, Nat.reduceEqDiff, reduceCtorEq, argEnv, eq_self, if_true, if_false]
      · rw [decide_eq_true i1, decide_eq_false i2] at h63
        simp only [Bool.and_self, Bool.true_and, Bool.and_true, Bool.false_and, Bool.and_false] at h63
        simp only [c36, eBase, hlen, i1, i2, h63, h0', evX, Int.reduceEq, Int.reduceLT, Int.reduceLE, Nat.reduceMul, Nat.reduceMod, evW, fn_eq, evR, Nat.reduceAdd, Nat.reduceLT, Nat.reduceLeDiff, reduceIte, Nat.reduceEqDiff, reduceCtorEq, argEnv, eq_self, if_true, if_false]
    · rw [decide_eq_false i1] at h63
      simp only [Bool.and_self, Bool.true_and, Bool.and_true, Bool.false_and, Bool.and_false] at h63
      simp only [c36, eBase, hlen, i1, h63, h0', evX, Int.reduceEq, Int.reduceLT, Int.reduceLE, Nat.reduceMul, Nat.reduceMod, evW, fn_eq, evR, Nat.reduceAdd, Nat.reduceLT, Nat.reduceLeDiff, reduceIte, Nat.reduceEqDiff, reduceCtorEq, argEnv, eq_self, if_true, if_false]
end Go.Proofs.YtbdpceigmnpoaaaGreatDoor.Code

/- call: Answer, of the program and of the document. -/
set_option linter.unusedSimpArgs false
set_option linter.unusedVariables false
namespace Go.Proofs.YtbdpceigmnpoaaaGreatDoor.Code
open Go.Proofs.YtbdpceigmnpoaaaGreatDoor.Ev

theorem f68 (b : Base) (f : List Item) (hr : Right b f) (p : Nat) (K : Heap) (hk : Bk b f p K) (i : Int) (h1 : -1 ≤ i) (h2 : i < (f.length : Int)) (t : Int) (b1 b2 : Nat) (g1 : Sits K b1 ⟨0, true, 103, 1, [[.ptr p 0 6 0 0]]⟩) (g2 : Sits K b2 (bI i)) :
    cal (evC cprog) false 68 [.int .i64 t, .ptr b1 0 1 0 0, .ptr b2 0 1 0 0] K = some (.bool (decide (onI b f i t < 0)), K) := by
  rw [cal_of at68]
  have h69 := f69 b f hr p K hk i h1 h2 t
  have k1 := g1.at
  have k2 := g2.at
  simp only [bI] at k2
  simp only [c68, k1, k2, h69, evX, Int.reduceEq, Int.reduceLT, Int.reduceLE, Nat.reduceMul, Nat.reduceMod, evW, fn_eq, evR, Nat.reduceAdd, Nat.reduceLT, Nat.reduceLeDiff, reduceIte, Nat.reduceEqDiff, reduceCtorEq, argEnv, eq_self, if_true, if_false]
/-- a type of the arguments has no item on the path -/
def offP (b : Base) (f : List Item) (l : List Ar) (i : Int) : Bool := (tysA b.types l).any fun t => decide (onI b f i t < 0)
noncomputable def ansE (b : Base) (f : List Item) (l : List Ar) (i : Int) : Int := if askE b f l = 0 then (if inF f i = true then (if offP b f l i = true then 2 else 0) else 2) else askE b f l
def an0 : An := ⟨⟨#[]⟩, ⟨#[]⟩, 0, ⟨#[]⟩, ⟨#[]⟩⟩
noncomputable def ansV (b : Base) (f : List Item) (l : List Ar) (i : Int) : An := if ansE b f l i = 0 then ansB b f l i.toNat else an0
theorem offP_on {b : Base} {f : List Item} {l : List Ar} {i : Int} (h : offP b f l i = false) : ∀ a ∈ l, 0 ≤ onI b f i (tyIx b.types a.seg) := fun a ha => by
  have := List.any_eq_false.1 h (tyIx b.types a.seg) (List.mem_map.2 ⟨a, ha, rfl⟩)
  simp only [decide_eq_true_eq] at this
  omega
set_option maxHeartbeats 4000000 in
theorem f37 (b : Base) (hb : b.Ok) (f : List Item) (l : List Ar) (hok : ∀ a ∈ l, a.Ok) (i : Int) (H : Heap) : cal (evC cprog) false 37 [eBase b, eItems f, eArs l, .int .i64 i] H = some (.tup [eAn (ansV b f l i), .int .i64 (ansE b f l i)], H) := by
  rw [cal_of at37]
  have hlen := (sItems [] f).len
  simp only [List.length_map] at hlen
  by_cases h0 : askE b f l = 0
  · obtain ⟨Z, h61, hB⟩ := (f61 b hb f l hok (H ++ [bBase b, bI i, bAn0])).1 h0
    obtain ⟨hr, hs⟩ := askE_right hb h0
    obtain ⟨hR, hl5⟩ := chkS_rise hs
    have hB2 := hB.app [⟨0, true, 103, 1, [[.ptr (H.length + 5) 0 6 0 0]]⟩]
    simp only [eBase, bBase, bI, bAn0, List.length_append, List.length_cons, List.length_nil, Nat.zero_add, Nat.add_assoc, Nat.reduceAdd, List.append_assoc, List.cons_append, List.nil_append] at h61 hB hB2
    have hcu : ∀ T : List Int, (eIs T).cells = [eIs T] := fun _ => rfl
    have htu : ∀ T : List Int, (eIs T).isTup = false := fun _ => rfl
    by_cases i1 : i < 0
    · have e : ansE b f l i = 2 := by unfold ansE; rw [if_pos h0, if_neg]; simp [inF]; omega
      rw [ansV, e, if_neg (by decide)]
      simp only [c37, eBase, h61, i1, evX, Int.reduceEq, Int.reduceLT, Int.reduceLE, Nat.reduceMul, Nat.reduceMod, evW, fn_eq, evR, Nat.reduceAdd, Nat.reduceLT, Nat.reduceLeDiff, reduceIte, Nat.reduceEqDiff, reduceCtorEq, argEnv, eq_self, if_true, if_false]
      rfl
    by_cases i2 : (f.length : Int) ≤ i
    · have e : ansE b f l i = 2 := by unfold ansE; rw [if_pos h0, if_neg]; simp [inF]; omega
      rw [ansV, e, if_neg (by decide)]
      simp only [c37, eBase, h61, hlen, i1, i2, evX, Int.reduceEq, Int.reduceLT, Int.reduceLE, Nat.reduceMul, Nat.reduceMod, evW, fn_eq, evR, Nat.reduceAdd, Nat.reduceLT, Nat.reduceLeDiff, reduceIte, Nat.reduceEqDiff, reduceCtorEq, argEnv, eq_self, if_true, if_false]
      rfl
    have hin : inF f i = true := by simp [inF]; omega
    have h67 := containsFunc_ok (g := 107) at67 (indexFunc_ok (sz := 1) (ag := false) at107 rI (fun x => .int .i64 x) lI 68 [.ptr (H.length + (Z.length + 3)) 0 1 0 0, .ptr (H.length + 1) 0 1 0 0] (fun t => decide (onI b f i t < 0)) _ (eIs (tysA b.types l)) (tysA b.types l) (sIs _ _) (by simp [tysA]; omega) fun t _ => f68 b f hr _ _ hB2 i (by omega) (by omega) t (H.length + (Z.length + 3)) (H.length + 1) (.mk (by simp)) (.mk (by simp [bI])))
    have e3 : ((tysA b.types l).any fun t => decide (onI b f i t < 0)) = offP b f l i := rfl
    rw [e3] at h67
    have hsp : ∀ b v s i o, AV.scal (.ptr b v s i o) = true := fun _ _ _ _ _ => rfl
    cases ho : offP b f l i with
    | true =>
      have e : ansE b f l i = 2 := by unfold ansE; rw [if_pos h0, if_pos hin, if_pos ho]
      rw [ansV, e, if_neg (by decide)]
      rw [ho] at h67
      simp only [c37, eBase, h61, hlen, i1, i2, hsp, h67, evX, Int.reduceEq, Int.reduceLT, Int.reduceLE, Nat.reduceMul, Nat.reduceMod, evW, fn_eq, evR, Nat.reduceAdd, Nat.reduceLT, Nat.reduceLeDiff, reduceIte, Nat.reduceEqDiff, reduceCtorEq, argEnv, eq_self, if_true, if_false]
      rfl
    | false =>
      have e : ansE b f l i = 0 := by unfold ansE; rw [if_pos h0, if_pos hin, if_neg (by rw [ho]; decide)]
      rw [ansV, e, if_pos rfl]
      rw [ho] at h67
      obtain ⟨n, rfl⟩ : ∃ n : Nat, i = (n : Int) := ⟨i.toNat, by omega⟩
      have hal := (sArs [] l).len
      simp only [List.length_map] at hal
      have h70 := f70 b f hr _ _ hB2 l (by omega) (eArs l) (eIs (tysA b.types l)) (.inl rfl) hal (fun H => sIs H _) n (by omega)
      rw [Int.toNat_natCast]
      simp only [eAn, rAn] at h70 ⊢
      generalize ansB b f l n = q at *
      simp only [c37, eBase, h61, hlen, i1, i2, hsp, h67, h70, evX, Int.reduceEq, Int.reduceLT, Int.reduceLE, Nat.reduceMul, Nat.reduceMod, evW, fn_eq, evR, Nat.reduceAdd, Nat.reduceLT, Nat.reduceLeDiff, reduceIte, Nat.reduceEqDiff, reduceCtorEq, argEnv, eq_self, if_true, if_false]
  · have h61 := (f61 b hb f l hok (H ++ [bBase b, bI i, bAn0])).2 h0
    have e : ansE b f l i = askE b f l := if_neg h0
    rw [ansV, e, if_neg h0]
    simp only [eBase, bBase, bI, bAn0] at h61
    have h0' : (askE b f l = 0) = False := eq_false h0
    generalize askE b f l = q at *
    simp only [c37, eBase, h61, h0', evX, Int.reduceEq, Int.reduceLT, Int.reduceLE, Nat.reduceMul, Nat.reduceMod, evW, fn_eq, evR, Nat.reduceAdd, Nat.reduceLT, Nat.reduceLeDiff, reduceIte, Nat.reduceEqDiff, reduceCtorEq, argEnv, eq_self, if_true, if_false]
    rfl
set_option maxHeartbeats 4000000 in
theorem l38 (b : Base) (f : List Item) (hr : Right b f) (l : List Ar) (hl5 : l.length ≤ 1000) (hok : ∀ a ∈ l, ArOk b.types a) (i : Nat) (hi : i < f.length) (n q0 : Nat) (K : Heap) (hn : Sits K n (bBase b)) (st : St)
    (hE : keepEnv st.1 [1, 2, 3, 4, 8, 10, 11] = [(1, eItems f), (2, eArs l), (3, .int .i64 (i : Int)), (4, .ptr n 0 4 0 0), (8, .ptr q0 0 5 0 0), (10, .int .i64 0), (11, .int .i64 0)]) (hH : st.2 = K) (z : Option (CX × St)) (hz : itLim (evCode (evC cprog) itLim c38_l0) st = z) :
    ∃ T, z = some (.exit 0, T, K) ∧ keepEnv T [1, 2, 3, 4, 8, 10] = [(1, eItems f), (2, eArs l), (3, .int .i64 (i : Int)), (4, .ptr n 0 4 0 0), (8, .ptr q0 0 5 0 0), (10, .int .i64 (if offP b f l (i : Int) = true then 2 else 0))] := by
  have hn0 := hn.at
  simp only [bBase] at hn0
  have hlen := (sArs [] l).len
  simp only [List.length_map] at hlen
  have hfl := hr.len
  have L := loop_rule (σ := Nat) (m := [1, 2, 3, 4, 8, 10, 11]) (env := fun k => [(1, eItems f), (2, eArs l), (3, .int .i64 (i : Int)), (4, .ptr n 0 4 0 0), (8, .ptr q0 0 5 0 0), (10, .int .i64 (if (((tysA b.types l).take k).any fun t => decide (onI b f (i : Int) t < 0)) = true then 2 else 0)), (11, .int .i64 (k : Int))]) (hp := fun _ => K)
    (P := fun _ r => ∃ T, r = (.exit 0, T, K) ∧ keepEnv T [1, 2, 3, 4, 8, 10] = [(1, eItems f), (2, eArs l), (3, .int .i64 (i : Int)), (4, .ptr n 0 4 0 0), (8, .ptr q0 0 5 0 0), (10, .int .i64 (if offP b f l (i : Int) = true then 2 else 0))])
    (mu := fun k => l.length - k) (I := fun k => k ≤ l.length) (evCode (evC cprog) itLim c38_l0) ?_ 0 st (Nat.zero_le _) (by simpa using hE) hH z hz
  · obtain ⟨_, rfl, T, rfl, hT⟩ := L
    exact ⟨T, rfl, hT⟩
  · intro k hk E hE
    by_cases hlt : k < l.length
    · obtain ⟨a, ha⟩ : ∃ a, l[k]? = some a := ⟨_, List.getElem?_eq_getElem hlt⟩
      have hkl : (k : Int) < (l.length : Int) := by omega
      have haa := aAr ha
      have hw := wrapS hlt (by omega)
      have hao := hok a (List.mem_of_getElem? ha)
      have h73 := f73 b hr.base hr.valid a hao.ty
      have h72 := f72 b f hr i hi
      have h71 := f71 f (pth b.types f i) (pth_in hi) (by have := fk_len hr hi; omega) (tyIx b.types a.seg)
      have eon : onL f (tyIx b.types a.seg) (pth b.types f i) = onI b f (i : Int) (tyIx b.types a.seg) := by rw [onI, pthI_nat]
      rw [eon] at h71
      have hst := any_step (p := fun t => decide (onI b f (i : Int) t < 0)) (tysA_at (ts := b.types) ha)
      generalize ((tysA b.types l).take k).any (fun t => decide (onI b f (i : Int) t < 0)) = v at *
      generalize hv2 : ((tysA b.types l).take (k + 1)).any (fun t => decide (onI b f (i : Int) t < 0)) = v2 at *
      simp only [eBase, rAr] at h73 h72
      by_cases h0 : onI b f (i : Int) (tyIx b.types a.seg) < 0
      · rw [decide_eq_true h0, Bool.or_true] at hst
        subst hst
        simp only [c38_l0, hE, hkl, hlen, hn0, haa, rAr, h73, h72, h71, h0, hw, evX, Int.reduceEq, Int.reduceLT, Int.reduceLE, Nat.reduceMul, Nat.reduceMod, evW, fn_eq, evR, Nat.reduceAdd, Nat.reduceLT, Nat.reduceLeDiff, reduceIte, Nat.reduceEqDiff, reduceCtorEq, argEnv, eq_self, if_true, if_false]
        exact q_next (k + 1) (by simp only [hv2]; rfl) rfl hlt (by omega) fun r h => h
      · rw [decide_eq_false h0, Bool.or_false] at hst
        subst hst
        simp only [c38_l0, hE, hkl, hlen, hn0, haa, rAr, h73, h72, h71, h0, hw, evX, Int.reduceEq, Int.reduceLT, Int.reduceLE, Nat.reduceMul, Nat.reduceMod, evW, fn_eq, evR, Nat.reduceAdd, Nat.reduceLT, Nat.reduceLeDiff, reduceIte, Nat.reduceEqDiff, reduceCtorEq, argEnv, eq_self, if_true, if_false]
        exact q_next (k + 1) (by simp only [hv2]; rfl) rfl hlt (by omega) fun r h => h
    · have hkl : ¬ (k : Int) < (l.length : Int) := by omega
      rw [List.take_of_length_le (by simp [tysA]; omega)] at hE
      simp only [c38_l0, hE, hkl, hlen, evX, Int.reduceEq, Int.reduceLT, Int.reduceLE, Nat.reduceMul, Nat.reduceMod, evW, fn_eq, evR, Nat.reduceAdd, Nat.reduceLT, Nat.reduceLeDiff, reduceIte, Nat.reduceEqDiff, reduceCtorEq, argEnv, eq_self, if_true, if_false]
      exact q_exit ⟨_, rfl, by rfl⟩
set_option maxHeartbeats 4000000 in
theorem f38 (b : Base) (hb : b.Ok) (f : List Item) (hfl : f.length < 9223372036854775807) (l : List Ar) (hok : ∀ a ∈ l, a.Ok) (i : Int) (H : Heap) : cal (evC cprog) false 38 [eBase b, eItems f, eArs l, .int .i64 i] H = some (.tup [eAn (ansV b f l i), .int .i64 (ansE b f l i)], H) := by
  rw [cal_of at38]
  have hlen := (sItems [] f).len
  have hal := (sArs [] l).len
  simp only [List.length_map] at hlen hal
  have h63 : ∀ H, cal (evC cprog) false 63 [eBase b, eItems f, eArs l, .bool (inF f i)] H = some (.int .i64 (satE b f l i), H) := f63 b hb f hfl l hok (inF f i)
  simp only [eBase] at h63
  have hin : inF f i = (decide (0 ≤ i) && decide (i < (f.length : Int))) := rfl
  by_cases h0 : satE b f l i = 0
  · have ha : askE b f l = 0 := by
      unfold satE at h0
      split at h0
      · assumption
      · rename_i h; exact absurd h0 h
    have hi : inF f i = true := by
      unfold satE at h0
      rw [if_pos ha] at h0
      split at h0
      · assumption
      · cases h0
    obtain ⟨hr, hs⟩ := askE_right hb ha
    obtain ⟨hR, hl5⟩ := chkS_rise hs
    rw [h0, hi] at h63
    have hi' := hi
    simp only [inF, Bool.and_eq_true, decide_eq_true_eq] at hi
    obtain ⟨i1, i2⟩ := hi
    obtain ⟨n, rfl⟩ : ∃ n : Nat, i = (n : Int) := ⟨i.toNat, by omega⟩
    have e : ansE b f l (n : Int) = if offP b f l (n : Int) = true then 2 else 0 := by unfold ansE; rw [if_pos ha, if_pos hi']
    have fin : offP b f l (n : Int) = false → ∀ H, cal (evC cprog) false 74 [.agg [.str b.name, .int .i64 b.kind, eTys b.types, eSes b.indexes], eItems f, eArs l, .int .i64 (n : Int)] H = some (.agg (rAn (ansB b f l n)), H) := fun ho H =>
      f74 b f hr l (by omega) (rise_ok hR hok) hR (eArs l) (.inl rfl) hal n (by omega) (offP_on ho) H
    by_cases hz0 : l = []
    · have ho : offP b f l (n : Int) = false := by rw [hz0]; rfl
      have h74 := fin ho
      rw [ho, if_neg (by decide)] at e
      rw [ansV, e, if_pos rfl, Int.toNat_natCast]
      have hal0 : (l.length : Int) = 0 := by rw [hz0]; rfl
      rw [hal0] at hal
      simp only [eAn, rAn] at h74 ⊢
      generalize ansB b f l n = q at *
      simp only [c38, eBase, hlen, hal, i1, i2, h63, h74, Int.lt_irrefl, evX, Int.reduceEq, Int.reduceLT, Int.reduceLE, Nat.reduceMul, Nat.reduceMod, evW, fn_eq, evR, Nat.reduceAdd, Nat.reduceLT, Nat.reduceLeDiff, reduceIte, Nat.reduceEqDiff, reduceCtorEq, argEnv, eq_self, if_true, if_false]
    · have hpos : (0 : Int) < (l.length : Int) := by have := List.length_pos_iff.2 hz0; omega
      simp only [c38, eBase, hlen, hal, hpos, i1, i2, h63, evX, Int.reduceEq, Int.reduceLT, Int.reduceLE, Nat.reduceMul, Nat.reduceMod, evW, fn_eq, evR, Nat.reduceAdd, Nat.reduceLT, Nat.reduceLeDiff, reduceIte, Nat.reduceEqDiff, reduceCtorEq, argEnv, eq_self, if_true, if_false]
      generalize hz : itLim _ _ = z
      obtain ⟨T, rfl, hT⟩ := l38 b f hr l (by omega) (rise_ok hR hok) n (by omega) H.length (H.length + 1) (H ++ [bBase b, bAn0]) (.mk (by simp)) _ (by rfl) (by simp [bBase, bAn0]) z hz
      clear hz
      simp only [bBase, bAn0]
      cases ho : offP b f l (n : Int) with
      | true =>
        rw [ho, if_pos rfl] at hT e
        rw [ansV, e, if_neg (by decide)]
        simp only [hT, evX, Int.reduceEq, Int.reduceLT, Int.reduceLE, Nat.reduceMul, Nat.reduceMod, evW, fn_eq, evR, Nat.reduceAdd, Nat.reduceLT, Nat.reduceLeDiff, reduceIte, Nat.reduceEqDiff, reduceCtorEq, argEnv, eq_self, if_true, if_false]
        rfl
      | false =>
        rw [ho, if_neg (by decide)] at hT e
        have h74 := fin ho
        rw [ansV, e, if_pos rfl, Int.toNat_natCast]
        simp only [eAn, rAn] at h74 ⊢
        generalize ansB b f l n = q at *
        simp only [hT, h74, evX, Int.reduceEq, Int.reduceLT, Int.reduceLE, Nat.reduceMul, Nat.reduceMod, evW, fn_eq, evR, Nat.reduceAdd, Nat.reduceLT, Nat.reduceLeDiff, reduceIte, Nat.reduceEqDiff, reduceCtorEq, argEnv, eq_self, if_true, if_false]
  · have e : ansE b f l i = satE b f l i := by
      unfold ansE satE at *
      split
      · rename_i h1
        rw [if_pos h1] at h0
        split
        · rename_i h2; rw [if_pos h2] at h0; exact absurd rfl h0
        · rfl
      · rfl
    have h0' : (satE b f l i = 0) = False := eq_false h0
    rw [ansV, e, if_neg h0]
    rw [hin] at h63
    generalize satE b f l i = q at *
    by_cases i1 : 0 ≤ i
    · by_cases i2 : i < (f.length : Int)
      · rw [decide_eq_true i1, decide_eq_true i2] at h63
        simp only [Bool.and_self] at h63
        simp only [c38, eBase, hlen, i1, i2, h63, h0', evX, Int.reduceEq, Int.reduceLT, Int.reduceLE, Nat.reduceMul, Nat.reduceMod, evW, fn_eq, evR, Nat.reduceAdd, Nat.reduceLT, Nat.reduceLeDiff, reduceIte, Nat.reduceEqDiff, reduceCtorEq, argEnv, eq_self, if_true, if_false]
        rfl
      · rw [decide_eq_true i1, decide_eq_false i2] at h63
        simp only [Bool.and_false] at h63
        simp only [c38, eBase, hlen, i1, i2, h63, h0', evX, Int.reduceEq, Int.reduceLT, Int.reduceLE, Nat.reduceMul, Nat.reduceMod, evW, fn_eq, evR, Nat.reduceAdd, Nat.reduceLT, Nat.reduceLeDiff, reduceIte, Nat.reduceEqDiff, reduceCtorEq, argEnv, eq_self, if_true, if_false]
        rfl
    · rw [decide_eq_false i1] at h63
      simp only [Bool.false_and] at h63
      simp only [c38, eBase, hlen, i1, h63, h0', evX, Int.reduceEq, Int.reduceLT, Int.reduceLE, Nat.reduceMul, Nat.reduceMod, evW, fn_eq, evR, Nat.reduceAdd, Nat.reduceLT, Nat.reduceLeDiff, reduceIte, Nat.reduceEqDiff, reduceCtorEq, argEnv, eq_self, if_true, if_false]
      rfl
end Go.Proofs.YtbdpceigmnpoaaaGreatDoor.Code

/- call: all functions are held, by the kernel's look or by a proof of their own (without slices.Insert). -/
set_option linter.unusedSimpArgs false
set_option linter.unusedVariables false
namespace Go.Proofs.YtbdpceigmnpoaaaGreatDoor.Code
open Go.Proofs.YtbdpceigmnpoaaaGreatDoor.Ev

theorem cprog_sound {f : Nat} {c : CFn} (h : cprog f = some c) : okFn Go.Proofs.Tryz.prog f c = true ∨ Held Go.Proofs.Tryz.prog f c := by
  rcases cprog_ok h with h | h
  · exact .inl h
  · simp only [utab, List.mem_cons, Prod.mk.injEq, List.not_mem_nil, or_false] at h
    repeat' (refine Or.elim h ?_ ?_ <;> clear h <;> intro h)
    all_goals
      obtain ⟨rfl, rfl⟩ := h
      first | exact .inr (.inl (userRepl rfl rfl rfl rfl)) | exact .inr (.inl (userIdx rfl rfl rfl rfl)) | exact .inr (.inl (userCmp rfl rfl rfl rfl))
end Go.Proofs.YtbdpceigmnpoaaaGreatDoor.Code

/- Closed runs: what is asked again and again is looked up. -/
set_option linter.unusedSimpArgs false
set_option linter.unusedVariables false
namespace Go.Proofs.YtbdpceigmnpoaaaGreatDoor.Ev

/-- the evaluator, with answers known ahead -/
def evCallO (prog : Nat → Option CFn) (orc : Nat → List AV → Option (AV × Heap)) : Nat → Nat → List AV → Heap → Option (AV × Heap)
  | 0, _, _, _ => none
  | k + 1, f, args, H => match orc f args with
    | some (v, X) => some (v, H ++ X)
    | none => match prog f with
      | some c => evFn (evCallO prog orc k) (fun body => iter body k) c args H
      | none => none
theorem evCallO_le {prog : Nat → Option CFn} {orc : Nat → List AV → Option (AV × Heap)} (h : ∀ f args v X, orc f args = some (v, X) → ∀ H, evC prog f args H = some (v, H ++ X)) : ∀ n, CallLe (evCallO prog orc n) (evC prog)
  | 0, f, args, H, r, hx => by simp [evCallO] at hx
  | n + 1, f, args, H, r, hx => by
    simp only [evCallO] at hx
    cases ho : orc f args with
    | some p =>
      obtain ⟨v, X⟩ := p
      rw [ho] at hx
      cases hx
      exact h f args v X ho H
    | none =>
      rw [ho] at hx
      simp only at hx
      cases hc : prog f with
      | none => rw [hc] at hx; cases hx
      | some c =>
        rw [hc] at hx
        rw [evC_fn hc]
        exact evFn_le (evCallO_le h n) (fun b1 b2 hb s r hr => itLim_some.2 ⟨n, iter_le hb n n (Nat.le_refl _) s r hr⟩) hx
end Go.Proofs.YtbdpceigmnpoaaaGreatDoor.Ev
namespace Go.Proofs.YtbdpceigmnpoaaaGreatDoor.Code
open Go.Proofs.YtbdpceigmnpoaaaGreatDoor.Ev

/-- the base of the chapter's example -/
def shop : Base := ⟨⟨#[83, 72, 79, 80]⟩, 4, [
  ⟨⟨#[67, 85, 83, 84]⟩, -1, 1, 10, [⟨⟨#[67, 85, 83, 84, 78, 79]⟩, 0, 1⟩], 0, true, false⟩,
  ⟨⟨#[79, 82, 68, 69, 82]⟩, 0, 1, 12, [⟨⟨#[79, 82, 68, 78, 79]⟩, 0, 1⟩], 0, true, false⟩,
  ⟨⟨#[73, 84, 69, 77]⟩, 1, 1, 8, [], -1, false, true⟩,
  ⟨⟨#[80, 72, 79, 78, 69]⟩, 0, 1, 8, [], -1, false, false⟩], []⟩
theorem shop_ok : shop.Ok := by
  refine ⟨by decide, by decide, fun t ht => ?_, by decide, fun x hx => by cases hx⟩
  simp only [shop, List.mem_cons, List.not_mem_nil, or_false] at ht
  rcases ht with rfl | rfl | rfl | rfl
  all_goals
    refine ⟨by decide, by decide, fun f hf => ?_⟩
    first | (cases hf; done) | (simp only [List.mem_cons, List.not_mem_nil, or_false] at hf; subst hf; exact ⟨by decide⟩)
theorem e75 (b : Base) (hb : b.Ok) (H : Heap) : evC cprog 75 [eBase b] H = some (.bool (validB b), H ++ [bBase b]) := by
  rw [evC_fn at75]
  have h1 := f113 b.name hb.name
  have h2 := f114 b.types hb.type
  have h3 := f115 b.types b.indexes hb.indexes hb.index
  simp only [c75, eBase, h1, h2, h3, bBase, evX, Int.reduceEq, Int.reduceLT, Int.reduceLE, Nat.reduceMul, Nat.reduceMod, evW, fn_eq, evR, Nat.reduceAdd, Nat.reduceLT, Nat.reduceLeDiff, reduceIte, Nat.reduceEqDiff, reduceCtorEq, argEnv, eq_self, if_true, if_false]
  repeat' ((first | rw [guardK_cases] | rw [condK_bool] | rw [guardD_cases]); split <;> simp only [c75, eBase, h1, h2, h3, bBase, evX, Int.reduceEq, Int.reduceLT, Int.reduceLE, Nat.reduceMul, Nat.reduceMod, evW, evR, Nat.reduceAdd, Nat.reduceLT, Nat.reduceLeDiff, reduceIte, Nat.reduceEqDiff, reduceCtorEq, argEnv, eq_self, if_true, if_false, *])
  all_goals (simp_all [validB]; try (intros; omega))
theorem shop_valid : validB shop = true := by
  have h1 : evCall cprog 100 75 [eBase shop] [] = some (.bool true, [bBase shop]) := by kernel_rfl
  have h2 := evC_of h1
  rw [e75 shop shop_ok] at h2
  simpa using h2
def orc75 (f : Nat) (args : List AV) : Option (AV × Heap) := if f = 75 then (if AV.beqL args [eBase shop] = true then some (.bool true, [bBase shop]) else none) else none
theorem orc_ok (f : Nat) (args : List AV) (v : AV) (X : Heap) (h : orc75 f args = some (v, X)) (H : Heap) : evC cprog f args H = some (v, H ++ X) := by
  unfold orc75 at h
  split at h
  case isFalse => cases h
  rename_i hf
  split at h
  case isFalse => cases h
  rename_i ha
  cases h
  rw [AV.eq_of_beqL _ _ ha, hf, e75 shop shop_ok, shop_valid]
theorem first_run : evCallO cprog orc75 300 10 [] [] = some (.bool true, []) := by kernel_rfl
theorem closed_any {call it} {c : CFn} {b : Bool} (hc : c.closed = true) (h : evFn call it c [] [] = some (.bool b, [])) (H : Heap) : evFn call it c [] H = some (.bool b, H) := by
  unfold evFn at h ⊢
  rw [if_pos hc] at h ⊢
  simp only at h ⊢
  split at h
  · cases h; rfl
  · cases h
theorem f10 (H : Heap) : cal (evC cprog) false 10 [] H = some (.bool true, H) := by
  have h := evCallO_le orc_ok 300 10 [] [] _ first_run
  rw [evC_fn at10] at h
  rw [cal_of at10, closed_any rfl h H, calK_f, gc_same]
end Go.Proofs.YtbdpceigmnpoaaaGreatDoor.Code

/- The law CallSatisfies is true. -/
set_option linter.unusedSimpArgs false
set_option linter.unusedVariables false
namespace Go.Proofs.YtbdpceigmnpoaaaGreatDoor.Code
open Go.Proofs.YtbdpceigmnpoaaaGreatDoor.Ev Go.RowKit

def smallG (a : Ar) : Bool := a.whn.all fun g => decide ((g.length : Int) ≤ 6)
def smallR (a : Ar) : Bool := decide ((a.whn.length : Int) ≤ 6) && decide ((a.codes.size : Int) ≤ 10) && smallG a
def smallA (l : List Ar) : Bool := l.all smallR && decide ((l.length : Int) ≤ 8)
theorem l31_0 (l : List Ar) (j : Nat) (a : Ar) (hj : l[j]? = some a) (h6 : (a.whn.length : Int) ≤ 6) (H : Heap) (st : St) (G : Heap) (hE : keepEnv st.1 [0, 3, 4] = [(0, eArs l), (3, .int .i64 (j : Int)), (4, .int .i64 0)]) (hH : st.2 = H ++ ([] ++ G)) (z : Option (CX × St)) (hz : itLim (evCode (evC cprog) itLim c31_l0) st = z) :
    (smallG a = true ∧ Lv H [] (fun c T => c = .exit 2 ∧ keepEnv T [0, 3] = [(0, eArs l), (3, .int .i64 (j : Int))]) z) ∨ (smallG a = false ∧ Lv H [] (fun c T => c = .ret ∧ get T 2 = some (.bool false)) z) := by
  have haa := aAr hj
  have hlen := (sGrs [] a.whn).len
  simp only [List.length_map] at hlen
  exact all_rule a.whn (fun g => decide ((g.length : Int) ≤ 6)) [0, 3, 4] (fun i => [(0, eArs l), (3, .int .i64 (j : Int)), (4, .int .i64 (i : Int))]) H [] (evCode (evC cprog) itLim c31_l0) _ _
    (fun i g hx E G hE => by
      have hlt : i < a.whn.length := (List.getElem?_eq_some_iff.1 hx).1
      have hi : (i : Int) < (a.whn.length : Int) := by omega
      have hag := aGr hx
      have hw := wrapS (i := i) (n := 7) (by omega) (by omega)
      have hgl := (sTms [] g).len
      simp only [List.length_map] at hgl
      by_cases n1 : (6 : Int) < (g.length : Int)
      · simp only [c31_l0, hE, hi, haa, rAr, hlen, hag, rGr, hgl, n1, evX, Int.reduceEq, Int.reduceLT, Int.reduceLE, Nat.reduceMul, Nat.reduceMod, evW, fn_eq, evR, Nat.reduceAdd, Nat.reduceLT, Nat.reduceLeDiff, reduceIte, Nat.reduceEqDiff, reduceCtorEq, argEnv, eq_self, if_true, if_false]
        exact Sc.ret (by simp; omega) ⟨rfl, rfl⟩
      · simp only [c31_l0, hE, hi, haa, rAr, hlen, hag, rGr, hgl, n1, hw, evX, Int.reduceEq, Int.reduceLT, Int.reduceLE, Nat.reduceMul, Nat.reduceMod, evW, fn_eq, evR, Nat.reduceAdd, Nat.reduceLT, Nat.reduceLeDiff, reduceIte, Nat.reduceEqDiff, reduceCtorEq, argEnv, eq_self, if_true, if_false]
        exact Sc.next (by simp; omega) (by rfl))
    (fun E G hE => by
      simp only [c31_l0, hE, haa, rAr, hlen, Int.lt_irrefl, evX, Int.reduceEq, Int.reduceLT, Int.reduceLE, Nat.reduceMul, Nat.reduceMod, evW, fn_eq, evR, Nat.reduceAdd, Nat.reduceLT, Nat.reduceLeDiff, reduceIte, Nat.reduceEqDiff, reduceCtorEq, argEnv, eq_self, if_true, if_false]
      exact .exit (K := []) ⟨rfl, by rfl⟩) st G hE hH z hz
theorem f31 (l : List Ar) (hl : l.length < 9223372036854775807) (H : Heap) : cal (evC cprog) false 31 [eArs l] H = some (.bool (smallA l), H) := by
  rw [cal_of at31]
  have hlen := (sArs [] l).len
  simp only [List.length_map] at hlen
  simp only [c31, evX, Int.reduceEq, Int.reduceLT, Int.reduceLE, Nat.reduceMul, Nat.reduceMod, evW, fn_eq, evR, Nat.reduceAdd, Nat.reduceLT, Nat.reduceLeDiff, reduceIte, Nat.reduceEqDiff, reduceCtorEq, argEnv, eq_self, if_true, if_false]
  generalize hz : itLim _ _ = z
  have L := all_rule l smallR [0, 3] (fun i => [(0, eArs l), (3, .int .i64 (i : Int))]) H [] (evCode (evC cprog) itLim c31_l1) (fun c T => c = .exit 0 ∧ keepEnv T [0] = [(0, eArs l)]) (fun c T => c = .ret ∧ get T 2 = some (.bool false))
    (fun i a hx E G hE => by
      have hlt : i < l.length := (List.getElem?_eq_some_iff.1 hx).1
      have hi : (i : Int) < (l.length : Int) := by omega
      have haa := aAr hx
      have hw := wrapS hlt hl
      have hwl := (sGrs [] a.whn).len
      simp only [List.length_map] at hwl
      by_cases n1 : (6 : Int) < (a.whn.length : Int)
      · simp only [c31_l1, hE, hi, hlen, haa, rAr, hwl, n1, evX, Int.reduceEq, Int.reduceLT, Int.reduceLE, Nat.reduceMul, Nat.reduceMod, evW, fn_eq, evR, Nat.reduceAdd, Nat.reduceLT, Nat.reduceLeDiff, reduceIte, Nat.reduceEqDiff, reduceCtorEq, argEnv, eq_self, if_true, if_false]
        exact Sc.ret (by simp [smallR]; omega) ⟨rfl, rfl⟩
      by_cases n2 : (10 : Int) < (a.codes.size : Int)
      · simp only [c31_l1, hE, hi, hlen, haa, rAr, hwl, n1, n2, evX, Int.reduceEq, Int.reduceLT, Int.reduceLE, Nat.reduceMul, Nat.reduceMod, evW, fn_eq, evR, Nat.reduceAdd, Nat.reduceLT, Nat.reduceLeDiff, reduceIte, Nat.reduceEqDiff, reduceCtorEq, argEnv, eq_self, if_true, if_false]
        exact Sc.ret (by simp [smallR]; omega) ⟨rfl, rfl⟩
      have e : smallR a = smallG a := by simp only [smallR, decide_eq_true (show (a.whn.length : Int) ≤ 6 by omega), decide_eq_true (show (a.codes.size : Int) ≤ 10 by omega), Bool.true_and]
      rw [e]
      simp only [c31_l1, hE, hi, hlen, haa, rAr, hwl, n1, n2, evX, Int.reduceEq, Int.reduceLT, Int.reduceLE, Nat.reduceMul, Nat.reduceMod, evW, fn_eq, evR, Nat.reduceAdd, Nat.reduceLT, Nat.reduceLeDiff, reduceIte, Nat.reduceEqDiff, reduceCtorEq, argEnv, eq_self, if_true, if_false]
      generalize hz : itLim _ _ = z
      rcases l31_0 l i a hx (by omega) H _ G (by rfl) (by simp) z hz with ⟨ha, c, T, G', rfl, _, rfl, hT⟩ | ⟨ha, c, T, G', rfl, _, rfl, hT⟩
      · rw [ha]
        simp only [hT, hw, evX, Int.reduceEq, Int.reduceLT, Int.reduceLE, Nat.reduceMul, Nat.reduceMod, evW, fn_eq, evR, Nat.reduceAdd, Nat.reduceLT, Nat.reduceLeDiff, reduceIte, Nat.reduceEqDiff, reduceCtorEq, argEnv, eq_self, if_true, if_false]
        exact Sc.next rfl (by rfl)
      · rw [ha]
        simp only [evX, Int.reduceEq, Int.reduceLT, Int.reduceLE, Nat.reduceMul, Nat.reduceMod, evW, fn_eq, evR, Nat.reduceAdd, Nat.reduceLT, Nat.reduceLeDiff, reduceIte, Nat.reduceEqDiff, reduceCtorEq, argEnv, eq_self, if_true, if_false]
        exact Sc.ret rfl ⟨rfl, hT⟩)
    (fun E G hE => by
      simp only [c31_l1, hE, hlen, Int.lt_irrefl, evX, Int.reduceEq, Int.reduceLT, Int.reduceLE, Nat.reduceMul, Nat.reduceMod, evW, fn_eq, evR, Nat.reduceAdd, Nat.reduceLT, Nat.reduceLeDiff, reduceIte, Nat.reduceEqDiff, reduceCtorEq, argEnv, eq_self, if_true, if_false]
      exact .exit (K := []) ⟨rfl, by rfl⟩) _ [] (by rfl) (by simp) z hz
  rcases L with ⟨ha, c, T, G, rfl, _, rfl, hT⟩ | ⟨ha, c, T, G, rfl, _, rfl, hT⟩
  · simp only [hT, hlen, evX, Int.reduceEq, Int.reduceLT, Int.reduceLE, Nat.reduceMul, Nat.reduceMod, evW, fn_eq, evR, Nat.reduceAdd, Nat.reduceLT, Nat.reduceLeDiff, reduceIte, Nat.reduceEqDiff, reduceCtorEq, argEnv, eq_self, if_true, if_false]
    simp [smallA, ha]
  · simp only [hT, evX, Int.reduceEq, Int.reduceLT, Int.reduceLE, Nat.reduceMul, Nat.reduceMod, evW, fn_eq, evR, Nat.reduceAdd, Nat.reduceLT, Nat.reduceLeDiff, reduceIte, Nat.reduceEqDiff, reduceCtorEq, argEnv, eq_self, if_true, if_false]
    simp [smallA, ha]
theorem open_Tm {r : List AV} (h : HasL [.str, .int .i64, .str] r) : ∃ x : Tm, r = rTm x ∧ True := by
  simp only [HasL.eq_2, HasL.eq_1, Has] at h
  obtain ⟨_, _, rfl, ⟨s, rfl, _⟩, _, _, rfl, ⟨n, rfl, _⟩, _, _, rfl, ⟨v, rfl, _⟩, rfl⟩ := h
  exact ⟨⟨s, n, v⟩, rfl, trivial⟩
theorem open_Gr {r : List AV} (h : HasL [.sl [.str, .int .i64, .str]] r) : ∃ g : List Tm, r = rGr g ∧ g.length < 9223372036854775807 := by
  simp only [HasL.eq_2, HasL.eq_1, Has] at h
  obtain ⟨_, _, rfl, ⟨l, rfl, hl, hr⟩, rfl⟩ := h
  obtain ⟨us, rfl, _⟩ := typed (P := HasL [.str, .int .i64, .str]) (fun r h => open_Tm h) l (fun r h => by simpa only [HasL.eq_2, HasL.eq_1, Has] using hr r h)
  exact ⟨us, rfl, reach_lt (by simpa using hl)⟩
theorem open_Ar {r : List AV} (h : HasL [.str, .str, .sl [.sl [.str, .int .i64, .str]]] r) : ∃ a : Ar, r = rAr a ∧ a.Ok := by
  simp only [HasL.eq_2, HasL.eq_1, Has] at h
  obtain ⟨_, _, rfl, ⟨s, rfl, _⟩, _, _, rfl, ⟨c, rfl, hc⟩, _, _, rfl, ⟨l, rfl, hl, hr⟩, rfl⟩ := h
  obtain ⟨us, rfl, hq⟩ := typed (P := HasL [.sl [.str, .int .i64, .str]]) (fun r h => open_Gr h) l (fun r h => by simpa only [HasL.eq_2, HasL.eq_1, Has] using hr r h)
  exact ⟨⟨s, c, us⟩, rfl, ⟨reach_lt hc, reach_lt (by simpa using hl), hq⟩⟩
structure Aq where
  args : List Ar
  at' : Int
  frm : Int
  to : Int
def rAq (x : Aq) : List AV := [eArs x.args, .int .i64 x.at', .int .i64 x.frm, .int .i64 x.to]
theorem open_Aq {a : AV} (h : ArgTy true [.sl [.str, .str, .sl [.sl [.str, .int .i64, .str]]], .int .i64, .int .i64, .int .i64] a) : ∃ x : Aq, a = .agg (rAq x) ∧ x.args.length < 9223372036854775807 ∧ ∀ a ∈ x.args, a.Ok := by
  obtain ⟨bs, rfl, h⟩ := h
  simp only [HasL.eq_2, HasL.eq_1, Has] at h
  obtain ⟨_, _, rfl, ⟨l, rfl, hl, hr⟩, _, _, rfl, ⟨n, rfl, _⟩, _, _, rfl, ⟨m, rfl, _⟩, _, _, rfl, ⟨p, rfl, _⟩, rfl⟩ := h
  obtain ⟨us, rfl, hq⟩ := typed (P := HasL [.str, .str, .sl [.sl [.str, .int .i64, .str]]]) (fun r h => open_Ar h) l (fun r h => by simpa only [HasL.eq_2, HasL.eq_1, Has] using hr r h)
  exact ⟨⟨us, n, m, p⟩, rfl, reach_lt (by simpa using hl), hq⟩
theorem eqsAn (x : An) : eqsK false [2, 2, 0, 2, 2] (some (.agg [.str x.status, .str x.seg, .int .i64 x.level, .str x.key, .str x.data])) (some (.agg [.str x.status, .str x.seg, .int .i64 x.level, .str x.key, .str x.data])) = some (.bool true) := by
  simp [eqsK, cellsEq, cellEq]
set_option maxHeartbeats 8000000 in
theorem f8 (b : Base) (hb : b.Ok) (f : List Item) (hf : f.length < 9223372036854775807) (x : Aq) (hl : x.args.length < 9223372036854775807) (hok : ∀ a ∈ x.args, a.Ok) : ∃ H', evC cprog 8 [eBase b, eItems f, .agg (rAq x)] [] = some (.bool true, H') := by
  have h11 := f11 b hb f hf
  have h31 := f31 x.args hl
  have h10 := f10
  have hcu : (eArs x.args).cells = [eArs x.args] := rfl
  have htu : (eArs x.args).isTup = false := rfl
  simp only [eBase] at h11
  rw [evC_fn at8]
  cases hs : small b f with
  | false =>
    simp only [c8, eBase, rAq, hcu, htu, h10, h11, hs, evX, Int.reduceEq, Int.reduceLT, Int.reduceLE, Nat.reduceMul, Nat.reduceMod, evW, fn_eq, evR, Nat.reduceAdd, Nat.reduceLT, Nat.reduceLeDiff, reduceIte, Nat.reduceEqDiff, reduceCtorEq, argEnv, eq_self, if_true, if_false]
    all_goals exact ⟨_, rfl⟩
  | true =>
    cases hs2 : smallA x.args with
    | false =>
      simp only [c8, eBase, rAq, hcu, htu, h10, h11, h31, hs, hs2, evX, Int.reduceEq, Int.reduceLT, Int.reduceLE, Nat.reduceMul, Nat.reduceMod, evW, fn_eq, evR, Nat.reduceAdd, Nat.reduceLT, Nat.reduceLeDiff, reduceIte, Nat.reduceEqDiff, reduceCtorEq, argEnv, eq_self, if_true, if_false]
      all_goals exact ⟨_, rfl⟩
    | true =>
      have h33 := f33 b hb f x.args hok x.at'
      have h34 := f34 b hb f hf x.args hok x.at'
      have h35 := f35 b hb f x.args hok x.frm x.to
      have h36 := f36 b hb f hf x.args hok x.frm x.to
      have h37 := f37 b hb f x.args hok x.at'
      have h38 := f38 b hb f hf x.args hok x.at'
      have he := eqsAn (ansV b f x.args x.at')
      generalize satV b f x.args x.at' = v1 at *
      generalize satE b f x.args x.at' = v2 at *
      generalize seaV b f x.args x.frm x.to = v3 at *
      generalize seaE b f x.args x.frm x.to = v4 at *
      generalize ansV b f x.args x.at' = v5 at *
      generalize ansE b f x.args x.at' = v6 at *
      simp only [eBase, eAn, rAn] at h33 h34 h35 h36 h37 h38
      simp only [c8, eBase, rAq, hcu, htu, h10, h11, h31, hs, hs2, h33, h34, h35, h36, h37, h38, he, beq_self_eq_true, evX, Int.reduceEq, Int.reduceLT, Int.reduceLE, Nat.reduceMul, Nat.reduceMod, evW, fn_eq, evR, Nat.reduceAdd, Nat.reduceLT, Nat.reduceLeDiff, reduceIte, Nat.reduceEqDiff, reduceCtorEq, argEnv, eq_self, if_true, if_false]
      all_goals exact ⟨_, rfl⟩
end Go.Proofs.YtbdpceigmnpoaaaGreatDoor.Code
namespace Go.Proofs.YtbdpceigmnpoaaaGreatDoor.Pure
open Go.Proofs.YtbdpceigmnpoaaaGreatDoor.Ev Go.Proofs.YtbdpceigmnpoaaaGreatDoor.Code
theorem CallSatisfies (a0 : AV) (t0 : ArgTy true [.str, .int .i64, .sl [.str, .int .i64, .int .i64, .int .i64, .sl [.str, .int .i64, .int .i64], .int .i64, .bool, .bool], .sl [.str, .int .i64, .int .i64, .str]] a0)
    (a1 : AV) (t1 : ArgTy false [.sl [.int .i64, .str]] a1) (a2 : AV) (t2 : ArgTy true [.sl [.str, .str, .sl [.sl [.str, .int .i64, .str]]], .int .i64, .int .i64, .int .i64] a2) : ∃ H', evC cprog 8 [a0, a1, a2] [] = some (.bool true, H') := by
  obtain ⟨b, rfl, hb⟩ := open_Base t0
  obtain ⟨f, rfl, hf⟩ := open_Items t1
  obtain ⟨x, rfl, hl, hok⟩ := open_Aq t2
  exact f8 b hb f hf x hl hok
end Go.Proofs.YtbdpceigmnpoaaaGreatDoor.Pure

