/- Texts of ours, joined into one file; each begins with its own remark. -/
import Derived.Test.YtcbmakanokmdjaaU2
import Derived.Test.YtcbmakanokmdjaaInsP
import Derived.Test.YtcbmakanokmdjaaCodeB
import Derived.Test.YtcbmakanokmdjaaIb
/- plain: the forest with a new item, of the program and of the document. -/
set_option linter.unusedSimpArgs false
set_option linter.unusedVariables false
namespace Go.Proofs.Ytcbmakanokmdjaa.Code
open Go.Proofs.Ytcbmakanokmdjaa.Ev

theorem fn_user {call it} {n : Nat} {res : List CRes} {p : List AV → Heap → Option (List AV × Heap)} (args : List AV) (H : Heap) : evFn call it ⟨n, res, .user p, false, false⟩ args H = bodyK res ((p args H).map fun r => (CX.ret, (argEnv 0 r.1, r.2))) := by
  rw [fn_eq]
  simp only [evCode, user_args]
theorem f52r (H : Heap) (b v n bv : Nat) (els : List (List AV)) (row : List AV) (hb : H[b]? = some ⟨v, true, 50, 2, els⟩) (hv : H[bv]? = some ⟨0, true, 50, 2, [row]⟩) (hne : b ≠ bv) (hn : n = els.length) (hr : n < 100000) (i : Nat) (hi : i ≤ n) :
    cal (evC cprog) false 52 [.ref b v 2 0 n, .int .i64 (i : Int), .ref bv 0 2 0 1] H = some (.ref b (v + 1) 2 0 (n + 1), H.set b ⟨v + 1, true, 50, 2, els.take i ++ row :: els.drop i⟩) := by
  rw [cal_of at52, show c52 = ⟨0, [.t 0], .user (pIns 2 50 24), false, false⟩ from rfl, fn_user]
  have hc1 : curBlk H b v 2 = some ⟨v, true, 50, 2, els⟩ := by simp [curBlk, hb]
  have hc2 : curBlk H bv 0 2 = some ⟨0, true, 50, 2, [row]⟩ := by simp [curBlk, hv]
  have h : pIns 2 50 24 [.ref b v 2 0 n, .int .i64 (i : Int), .ref bv 0 2 0 1] H = some ([.ref b (v + 1) 2 0 (n + 1)], H.set b ⟨v + 1, true, 50, 2, els.take i ++ row :: els.drop i⟩) := by
    have ht : els.take n = els := List.take_of_length_le (by omega)
    simp only [pIns, hc1, hc2, List.getElem?_cons_zero]
    rw [if_pos ⟨trivial, trivial, trivial, trivial, hne, by omega, by omega, by omega, by unfold reach; omega, by unfold reach; omega⟩, Int.toNat_natCast, ht]
  rw [h]
  simp only [evX, Int.reduceEq, Int.reduceLT, Int.reduceLE, Nat.reduceMul, Nat.reduceMod, evW, fn_eq, evR, Nat.reduceAdd, Nat.reduceLT, Nat.reduceLeDiff, reduceIte, Nat.reduceEqDiff, reduceCtorEq, argEnv, eq_self, if_true, if_false]
  repeat' ((first | rw [guardK_cases] | rw [condK_bool] | rw [guardD_cases]); split <;> simp only [evX, Int.reduceEq, Int.reduceLT, Int.reduceLE, Nat.reduceMul, Nat.reduceMod, evW, evR, Nat.reduceAdd, Nat.reduceLT, Nat.reduceLeDiff, reduceIte, Nat.reduceEqDiff, reduceCtorEq, argEnv, eq_self, if_true, if_false, *])
  rw [gc_no _ _ _ rfl]
theorem f52n (H : Heap) (bv : Nat) (row : List AV) (hv : H[bv]? = some ⟨0, true, 50, 2, [row]⟩) :
    cal (evC cprog) false 52 [.nil0, .int .i64 0, .ref bv 0 2 0 1] H = some (.ref H.length 0 2 0 1, H ++ [⟨0, true, 50, 2, [row]⟩]) := by
  rw [cal_of at52, show c52 = ⟨0, [.t 0], .user (pIns 2 50 24), false, false⟩ from rfl, fn_user]
  have hc2 : curBlk H bv 0 2 = some ⟨0, true, 50, 2, [row]⟩ := by simp [curBlk, hv]
  have h : pIns 2 50 24 [.nil0, .int .i64 0, .ref bv 0 2 0 1] H = some ([.ref H.length 0 2 0 1], H ++ [⟨0, true, 50, 2, [row]⟩]) := by simp [pIns, hc2]
  rw [h]
  simp only [evX, Int.reduceEq, Int.reduceLT, Int.reduceLE, Nat.reduceMul, Nat.reduceMod, evW, fn_eq, evR, Nat.reduceAdd, Nat.reduceLT, Nat.reduceLeDiff, reduceIte, Nat.reduceEqDiff, reduceCtorEq, argEnv, eq_self, if_true, if_false]
  repeat' ((first | rw [guardK_cases] | rw [condK_bool] | rw [guardD_cases]); split <;> simp only [evX, Int.reduceEq, Int.reduceLT, Int.reduceLE, Nat.reduceMul, Nat.reduceMod, evW, evR, Nat.reduceAdd, Nat.reduceLT, Nat.reduceLeDiff, reduceIte, Nat.reduceEqDiff, reduceCtorEq, argEnv, eq_self, if_true, if_false, *])
noncomputable def insE (b : Base) (f : List Item) (p t : Int) (d : ByteArray) : Int := if placeE b f p t d = 0 then (if 200 ≤ f.length then 4 else 0) else placeE b f p t d
noncomputable def insL (b : Base) (f : List Item) (p t : Int) (d : ByteArray) : List Item := if insE b f p t d = 0 then f.take (placeN b f p t d) ++ ⟨t, d⟩ :: f.drop (placeN b f p t d) else []
noncomputable def insN (b : Base) (f : List Item) (p t : Int) (d : ByteArray) : Int := if insE b f p t d = 0 then (placeN b f p t d : Int) else 0
theorem foldD_le {b : Base} {f : List Item} {t : Int} {s : ByteArray} : ∀ (l : List Nat) (a : Nat), a ≤ f.length → (∀ k ∈ l, k < f.length) → l.foldl (atD b f t s) a ≤ f.length
  | [], a, h, _ => h
  | k :: l, a, h, hl => by
    rw [List.foldl_cons]
    refine foldD_le l _ ?_ fun j hj => hl j (List.mem_cons_of_mem _ hj)
    unfold atD
    split
    · exact (endOf_is b.types f (hl k (List.mem_cons_self ..))).le
    · exact h
theorem place_ok {b : Base} (hb : b.Ok) {f : List Item} {p t : Int} {d : ByteArray} (h : placeE b f p t d = 0) : Right b f ∧ argOk b f p t d = true ∧ twice b f p t (keyOf (tyOf b.types t) d) = false ∧ placeN b f p t d ≤ f.length := by
  have h0 := h
  unfold placeE at h
  split at h
  case isFalse he => exact absurd h he
  rename_i he
  split at h
  case isFalse => cases h
  rename_i hg
  split at h
  · cases h
  rename_i htw
  have hr := (errF_zero hb he).1
  have ha := argOk_at hg
  refine ⟨hr, hg, by simpa using htw, ?_⟩
  unfold placeN
  exact foldD_le _ _ (by omega) fun k hk => (mem_chTo.1 hk).1
theorem f24 (b : Base) (hb : b.Ok) (f : List Item) (hfl : f.length < 9223372036854775807) (p t : Int) (d : ByteArray) (H : Heap) : cal (evC cprog) false 24 [eBase b, eItems f, .int .i64 p, .int .i64 t, .str d] H = some (.tup [.int .i64 (placeR b f p t d), .int .i64 (placeE b f p t d)], H) := by
  rw [cal_of at24]
  have h50 := f50 b hb f hfl p t d
  simp only [eBase] at h50
  simp only [c24, eBase, h50, evX, Int.reduceEq, Int.reduceLT, Int.reduceLE, Nat.reduceMul, Nat.reduceMod, evW, fn_eq, evR, Nat.reduceAdd, Nat.reduceLT, Nat.reduceLeDiff, reduceIte, Nat.reduceEqDiff, reduceCtorEq, argEnv, eq_self, if_true, if_false]
  repeat' ((first | rw [guardK_cases] | rw [condK_bool] | rw [guardD_cases]); split <;> simp only [c24, eBase, h50, evX, Int.reduceEq, Int.reduceLT, Int.reduceLE, Nat.reduceMul, Nat.reduceMod, evW, evR, Nat.reduceAdd, Nat.reduceLT, Nat.reduceLeDiff, reduceIte, Nat.reduceEqDiff, reduceCtorEq, argEnv, eq_self, if_true, if_false, *])
theorem f25 (b : Base) (hb : b.Ok) (f : List Item) (hfl : f.length < 9223372036854775807) (p t : Int) (d : ByteArray) (H : Heap) : cal (evC cprog) false 25 [eBase b, eItems f, .int .i64 p, .int .i64 t, .str d] H = some (.tup [.int .i64 (placeR b f p t d), .int .i64 (placeE b f p t d)], H) := by
  rw [cal_of at25]
  have h51 := f51 b hb f hfl p t d
  simp only [eBase] at h51
  simp only [c25, eBase, h51, evX, Int.reduceEq, Int.reduceLT, Int.reduceLE, Nat.reduceMul, Nat.reduceMod, evW, fn_eq, evR, Nat.reduceAdd, Nat.reduceLT, Nat.reduceLeDiff, reduceIte, Nat.reduceEqDiff, reduceCtorEq, argEnv, eq_self, if_true, if_false]
  repeat' ((first | rw [guardK_cases] | rw [condK_bool] | rw [guardD_cases]); split <;> simp only [c25, eBase, h51, evX, Int.reduceEq, Int.reduceLT, Int.reduceLE, Nat.reduceMul, Nat.reduceMod, evW, evR, Nat.reduceAdd, Nat.reduceLT, Nat.reduceLeDiff, reduceIte, Nat.reduceEqDiff, reduceCtorEq, argEnv, eq_self, if_true, if_false, *])
def eLIE (l : List Item) (n e : Int) : AV := .tup [eItems l, .int .i64 n, .int .i64 e]
theorem it_rows (l : List Item) : ∀ r ∈ l.map rItem, r.length = 2 := fun r hr => by obtain ⟨_, _, rfl⟩ := List.mem_map.1 hr; rfl
theorem f26 (b : Base) (hb : b.Ok) (f : List Item) (hfl : f.length < 9223372036854775807) (p t : Int) (d : ByteArray) (H : Heap) : cal (evC cprog) true 26 [eBase b, eItems f, .int .i64 p, .int .i64 t, .str d] H = some (eLIE (insL b f p t d) (insN b f p t d) (insE b f p t d), H) := by
  rw [cal_of at26]
  have h50 := f50 b hb f hfl p t d
  simp only [eBase] at h50
  have hlen := (sItems [] f).len
  simp only [List.length_map] at hlen
  by_cases he : placeE b f p t d = 0
  · obtain ⟨hr, _, _, hn⟩ := place_ok hb he
    have hl := hr.len
    have hR : placeR b f p t d = (placeN b f p t d : Int) := if_pos he
    rw [hR, he] at h50
    by_cases h200 : 200 ≤ f.length
    · have h200' : (200 : Int) ≤ (f.length : Int) := by omega
      have e1 : insE b f p t d = 4 := by unfold insE; rw [if_pos he, if_pos h200]
      have e2 : insL b f p t d = [] := by unfold insL; rw [e1]; rfl
      have e3 : insN b f p t d = 0 := by unfold insN; rw [e1]; rfl
      rw [e1, e2, e3]
      simp only [c26, eBase, h50, hlen, h200', evX, Int.reduceEq, Int.reduceLT, Int.reduceLE, Nat.reduceMul, Nat.reduceMod, evW, fn_eq, evR, Nat.reduceAdd, Nat.reduceLT, Nat.reduceLeDiff, reduceIte, Nat.reduceEqDiff, reduceCtorEq, argEnv, eq_self, if_true, if_false]
      repeat' ((first | rw [guardK_cases] | rw [condK_bool] | rw [guardD_cases]); split <;> simp only [c26, eBase, h50, hlen, h200', evX, Int.reduceEq, Int.reduceLT, Int.reduceLE, Nat.reduceMul, Nat.reduceMod, evW, evR, Nat.reduceAdd, Nat.reduceLT, Nat.reduceLeDiff, reduceIte, Nat.reduceEqDiff, reduceCtorEq, argEnv, eq_self, if_true, if_false, *])
      exact frz_three (fz_nils _) rfl (by simp) (by simp) _ _ _ _
    · have h200' : ¬ (200 : Int) ≤ (f.length : Int) := by omega
      have e1 : insE b f p t d = 0 := by unfold insE; rw [if_pos he, if_neg h200]
      have e2 : insL b f p t d = f.take (placeN b f p t d) ++ ⟨t, d⟩ :: f.drop (placeN b f p t d) := if_pos e1
      have e3 : insN b f p t d = (placeN b f p t d : Int) := if_pos e1
      rw [e1, e2, e3]
      clear e1 e2 e3 hR
      generalize placeN b f p t d = n at *
      cases hf : f with
      | nil =>
        subst hf
        have hn0 : n = 0 := by simpa using hn
        subst hn0
        have h39 := fun K => clone_nil (ty := 50) (sz := 2) (bytes := 24) at39 K
        have h52 := f52n (H ++ [bBase b, ⟨0, true, 50, 2, [[.int .i64 t, .str d]]⟩]) (H.length + 1) [.int .i64 t, .str d] (by simp)
        simp only [bBase, Int.natCast_zero, eItems, List.map_nil] at h52 h50 hlen h200'
        simp only [c26, eBase, eItems, List.map_nil, h50, hlen, h200', h39, h52, Int.natCast_zero, evX, Int.reduceEq, Int.reduceLT, Int.reduceLE, Nat.reduceMul, Nat.reduceMod, evW, fn_eq, evR, Nat.reduceAdd, Nat.reduceLT, Nat.reduceLeDiff, reduceIte, Nat.reduceEqDiff, reduceCtorEq, argEnv, eq_self, if_true, if_false]
        repeat' ((first | rw [guardK_cases] | rw [condK_bool] | rw [guardD_cases]); split <;> simp only [c26, eBase, eItems, List.map_nil, h50, hlen, h200', h39, h52, Int.natCast_zero, evX, Int.reduceEq, Int.reduceLT, Int.reduceLE, Nat.reduceMul, Nat.reduceMod, evW, evR, Nat.reduceAdd, Nat.reduceLT, Nat.reduceLeDiff, reduceIte, Nat.reduceEqDiff, reduceCtorEq, argEnv, eq_self, if_true, if_false, *])
        obtain ⟨ids, g1, g2⟩ := fz_blk (H := H ++ [bBase b, ⟨0, true, 50, 2, [[.int .i64 t, .str d]]⟩, ⟨0, true, 50, 2, [[.int .i64 t, .str d]]⟩]) (b := H.length + 2) (v := 0) (sz := 2) (len := 1) (k := ⟨0, true, 50, 2, [[.int .i64 t, .str d]]⟩) (by simp [curBlk]) (rows := ([⟨t, d⟩] : List Item).map rItem) rfl (plain_items _) 6
        exact frz_three (ids := ids) g1 rfl (by simp) (fun x hx => by have := g2 x hx; omega) _ _ _ _
      | cons y ys =>
        rw [← hf]
        have hf0 : 0 < f.length := by rw [hf]; simp
        clear hf
        have h39 := f39 hf0 (by omega)
        have h52 := f52r (H ++ [bBase b, ⟨0, true, 50, 2, f.map rItem⟩, ⟨0, true, 50, 2, [[.int .i64 t, .str d]]⟩]) (H.length + 1) 0 f.length (H.length + 2) (f.map rItem) [.int .i64 t, .str d] (by simp) (by simp) (by omega) (by simp) (by omega) n hn
        obtain ⟨Z, hZ⟩ : ∃ Z, Z = (H ++ [bBase b, ⟨0, true, 50, 2, f.map rItem⟩, ⟨0, true, 50, 2, [[.int .i64 t, .str d]]⟩]).set (H.length + 1) ⟨0 + 1, true, 50, 2, (f.map rItem).take n ++ [.int .i64 t, .str d] :: (f.map rItem).drop n⟩ := ⟨_, rfl⟩
        rw [← hZ] at h52
        have zb : Z[H.length + 1]? = some ⟨1, true, 50, 2, (f.map rItem).take n ++ [.int .i64 t, .str d] :: (f.map rItem).drop n⟩ := by rw [hZ, List.getElem?_set_self (by simp)]
        have zt : Z.take H.length = H := by rw [hZ, List.take_set_of_le (by omega)]; simp
        clear hZ
        simp only [bBase] at h52
        simp only [c26, eBase, h50, hlen, h200', h39, h52, evX, Int.reduceEq, Int.reduceLT, Int.reduceLE, Nat.reduceMul, Nat.reduceMod, evW, fn_eq, evR, Nat.reduceAdd, Nat.reduceLT, Nat.reduceLeDiff, reduceIte, Nat.reduceEqDiff, reduceCtorEq, argEnv, eq_self, if_true, if_false]
        repeat' ((first | rw [guardK_cases] | rw [condK_bool] | rw [guardD_cases]); split <;> simp only [c26, eBase, h50, hlen, h200', h39, h52, evX, Int.reduceEq, Int.reduceLT, Int.reduceLE, Nat.reduceMul, Nat.reduceMod, evW, evR, Nat.reduceAdd, Nat.reduceLT, Nat.reduceLeDiff, reduceIte, Nat.reduceEqDiff, reduceCtorEq, argEnv, eq_self, if_true, if_false, *])
        have hrows : (f.map rItem).take n ++ [.int .i64 t, .str d] :: (f.map rItem).drop n = (f.take n ++ ⟨t, d⟩ :: f.drop n).map rItem := by simp [rItem]
        obtain ⟨ids, g1, g2⟩ := fz_blk (H := Z) (b := H.length + 1) (v := 1) (sz := 2) (len := f.length + 1) (k := ⟨1, true, 50, 2, (f.map rItem).take n ++ [.int .i64 t, .str d] :: (f.map rItem).drop n⟩) (by simp [curBlk, zb]) (rows := (f.take n ++ ⟨t, d⟩ :: f.drop n).map rItem) (by
          rw [hrows, List.take_of_length_le (by simp; omega)]) (plain_items _) 6
        exact frz_three (ids := ids) g1 rfl zt (fun x hx => by have := g2 x hx; omega) _ _ _ _
  · have e1 : insE b f p t d = placeE b f p t d := if_neg he
    have e2 : insL b f p t d = [] := by unfold insL; rw [e1, if_neg he]
    have e3 : insN b f p t d = 0 := by unfold insN; rw [e1, if_neg he]
    rw [e1, e2, e3]
    simp only [c26, eBase, h50, he, evX, Int.reduceEq, Int.reduceLT, Int.reduceLE, Nat.reduceMul, Nat.reduceMod, evW, fn_eq, evR, Nat.reduceAdd, Nat.reduceLT, Nat.reduceLeDiff, reduceIte, Nat.reduceEqDiff, reduceCtorEq, argEnv, eq_self, if_true, if_false]
    repeat' ((first | rw [guardK_cases] | rw [condK_bool] | rw [guardD_cases]); split <;> simp only [c26, eBase, h50, he, evX, Int.reduceEq, Int.reduceLT, Int.reduceLE, Nat.reduceMul, Nat.reduceMod, evW, evR, Nat.reduceAdd, Nat.reduceLT, Nat.reduceLeDiff, reduceIte, Nat.reduceEqDiff, reduceCtorEq, argEnv, eq_self, if_true, if_false, *])
    exact frz_three (fz_nils _) rfl (by simp) (by simp) _ _ _ _
theorem f27 (b : Base) (hb : b.Ok) (f : List Item) (hfl : f.length < 9223372036854775807) (p t : Int) (d : ByteArray) (H : Heap) : cal (evC cprog) true 27 [eBase b, eItems f, .int .i64 p, .int .i64 t, .str d] H = some (eLIE (insL b f p t d) (insN b f p t d) (insE b f p t d), H) := by
  rw [cal_of at27]
  have h51 := f51 b hb f hfl p t d
  simp only [eBase] at h51
  have hlen := (sItems [] f).len
  simp only [List.length_map] at hlen
  by_cases he : placeE b f p t d = 0
  · obtain ⟨hr, _, _, hn⟩ := place_ok hb he
    have hl := hr.len
    have hR : placeR b f p t d = (placeN b f p t d : Int) := if_pos he
    rw [hR, he] at h51
    by_cases h200 : 200 ≤ f.length
    · have h200' : ((f.length : Int) = 200) = True := eq_true (by omega)
      have e1 : insE b f p t d = 4 := by unfold insE; rw [if_pos he, if_pos h200]
      have e2 : insL b f p t d = [] := by unfold insL; rw [e1]; rfl
      have e3 : insN b f p t d = 0 := by unfold insN; rw [e1]; rfl
      rw [e1, e2, e3]
      simp only [c27, eBase, h51, hlen, h200', evX, Int.reduceEq, Int.reduceLT, Int.reduceLE, Nat.reduceMul, Nat.reduceMod, evW, fn_eq, evR, Nat.reduceAdd, Nat.reduceLT, Nat.reduceLeDiff, reduceIte, Nat.reduceEqDiff, reduceCtorEq, argEnv, eq_self, if_true, if_false]
      repeat' ((first | rw [guardK_cases] | rw [condK_bool] | rw [guardD_cases]); split <;> simp only [c27, eBase, h51, hlen, h200', evX, Int.reduceEq, Int.reduceLT, Int.reduceLE, Nat.reduceMul, Nat.reduceMod, evW, evR, Nat.reduceAdd, Nat.reduceLT, Nat.reduceLeDiff, reduceIte, Nat.reduceEqDiff, reduceCtorEq, argEnv, eq_self, if_true, if_false, *])
      exact frz_three (fz_nils _) rfl (by simp) (by simp) _ _ _ _
    · have h200' : ((f.length : Int) = 200) = False := eq_false (by omega)
      have e1 : insE b f p t d = 0 := by unfold insE; rw [if_pos he, if_neg h200]
      have e2 : insL b f p t d = f.take (placeN b f p t d) ++ ⟨t, d⟩ :: f.drop (placeN b f p t d) := if_pos e1
      have e3 : insN b f p t d = (placeN b f p t d : Int) := if_pos e1
      rw [e1, e2, e3]
      clear e1 e2 e3 hR
      generalize placeN b f p t d = n at *
      have hs1 := fun H => slc_take rItem (sz := 2) (fun _ => rfl) H f (i := n) (by omega)
      have hs2 := fun H => slc_drop rItem (sz := 2) (fun _ => rfl) H f (i := n) hn
      change ∀ H, evSlc H 2 (eItems f) _ _ _ = _ at hs1
      change ∀ H, evSlc H 2 (eItems f) _ _ _ = _ at hs2
      obtain ⟨rv1, X1, a1, a2, a3⟩ := (Out.nil0 (H ++ [bBase b]).length 2 50 []).app (H ++ [bBase b]) rfl 24 (.lst ((f.take n).map rItem)) _ rfl (it_rows _) (by simp [reach]; omega)
      obtain ⟨rv2, X2, b1, b2, b3⟩ := a3.app (H ++ [bBase b]) rfl 24 (.lst [[.int .i64 t, .str d]]) [[.int .i64 t, .str d]] rfl (by simp) (by simp [reach]; omega)
      obtain ⟨rv3, X3, d1, d2, d3⟩ := b3.app (H ++ [bBase b]) rfl 24 (.lst ((f.drop n).map rItem)) _ rfl (it_rows _) (by simp [reach]; omega)
      simp only [List.append_assoc, List.append_nil, List.cons_append, List.nil_append, bBase] at a1 b1 d1
      simp only [c27, eBase, h51, hlen, h200', hs1, hs2, asNat_cast, a1, a2, b1, b2, d1, d2, evX, Int.reduceEq, Int.reduceLT, Int.reduceLE, Nat.reduceMul, Nat.reduceMod, evW, fn_eq, evR, Nat.reduceAdd, Nat.reduceLT, Nat.reduceLeDiff, reduceIte, Nat.reduceEqDiff, reduceCtorEq, argEnv, eq_self, if_true, if_false]
      repeat' ((first | rw [guardK_cases] | rw [condK_bool] | rw [guardD_cases]); split <;> simp only [c27, eBase, h51, hlen, h200', hs1, hs2, asNat_cast, a1, a2, b1, b2, d1, d2, evX, Int.reduceEq, Int.reduceLT, Int.reduceLE, Nat.reduceMul, Nat.reduceMod, evW, evR, Nat.reduceAdd, Nat.reduceLT, Nat.reduceLeDiff, reduceIte, Nat.reduceEqDiff, reduceCtorEq, argEnv, eq_self, if_true, if_false, *])
      have hrows : [] ++ (f.take n).map rItem ++ [[.int .i64 t, .str d]] ++ (f.drop n).map rItem = (f.take n ++ ⟨t, d⟩ :: f.drop n).map rItem := by simp [rItem]
      rw [hrows] at d3
      obtain ⟨ids, g1, g2, g3⟩ := fz_out' d3 (H ++ [bBase b]) rfl (plain_items _)
      exact frz_three (ids := ids) (by simpa [bBase] using g1) g3 (by simp) (fun x hx => by have := g2 x hx; simp at this; omega) _ _ _ _
  · have e1 : insE b f p t d = placeE b f p t d := if_neg he
    have e2 : insL b f p t d = [] := by unfold insL; rw [e1, if_neg he]
    have e3 : insN b f p t d = 0 := by unfold insN; rw [e1, if_neg he]
    rw [e1, e2, e3]
    simp only [c27, eBase, h51, he, evX, Int.reduceEq, Int.reduceLT, Int.reduceLE, Nat.reduceMul, Nat.reduceMod, evW, fn_eq, evR, Nat.reduceAdd, Nat.reduceLT, Nat.reduceLeDiff, reduceIte, Nat.reduceEqDiff, reduceCtorEq, argEnv, eq_self, if_true, if_false]
    repeat' ((first | rw [guardK_cases] | rw [condK_bool] | rw [guardD_cases]); split <;> simp only [c27, eBase, h51, he, evX, Int.reduceEq, Int.reduceLT, Int.reduceLE, Nat.reduceMul, Nat.reduceMod, evW, evR, Nat.reduceAdd, Nat.reduceLT, Nat.reduceLeDiff, reduceIte, Nat.reduceEqDiff, reduceCtorEq, argEnv, eq_self, if_true, if_false, *])
    exact frz_three (fz_nils _) rfl (by simp) (by simp) _ _ _ _
end Go.Proofs.Ytcbmakanokmdjaa.Code

/- plain: all functions are held, by the kernel's look or by a proof of their own. -/
set_option linter.unusedSimpArgs false
set_option linter.unusedVariables false
namespace Go.Proofs.Ytcbmakanokmdjaa.Code
open Go.Proofs.Ytcbmakanokmdjaa.Ev

theorem cprog_sound {f : Nat} {c : CFn} (h : cprog f = some c) : okFn Go.Proofs.Try.prog f c = true ∨ UserOk Go.Proofs.Try.prog f c := by
  rcases cprog_ok h with h | h
  · exact .inl h
  · simp only [utab, List.mem_cons, Prod.mk.injEq, List.not_mem_nil, or_false] at h
    obtain ⟨rfl, rfl⟩ := h
    exact .inr (userIns rfl rfl rfl rfl)
end Go.Proofs.Ytcbmakanokmdjaa.Code

/- The law PlainInserts is true. -/
set_option linter.unusedSimpArgs false
set_option linter.unusedVariables false
namespace Go.Proofs.Ytcbmakanokmdjaa.Code
open Go.Proofs.Ytcbmakanokmdjaa.Ev Go.RowKit

theorem insL_len (b : Base) (f : List Item) (p t : Int) (d : ByteArray) : (insL b f p t d).length ≤ f.length + 1 + f.length := by
  unfold insL
  split
  · simp; omega
  · simp
theorem f7 (b : Base) (hb : b.Ok) (f : List Item) (hf : f.length < 9223372036854775807) (p t i : Int) (d : ByteArray) : ∃ H', evC cprog 7 [eBase b, eItems f, .agg [.int .i64 p, .int .i64 t, .int .i64 i, .str d]] [] = some (.bool true, H') := by
  have h9 := f9 b hb f hf
  have h10 := f10
  have h24 := f24 b hb f hf p t d
  have h25 := f25 b hb f hf p t d
  have h26 := f26 b hb f hf p t d
  have h27 := f27 b hb f hf p t d
  simp only [eBase, eLIE] at h9 h24 h25 h26 h27
  rw [evC_fn at7]
  cases hs : small b f with
  | false =>
    simp only [c7, eBase, cells_eItems, isTup_eItems, h9, h10, hs, evX, Int.reduceEq, Int.reduceLT, Int.reduceLE, Nat.reduceMul, Nat.reduceMod, evW, fn_eq, evR, Nat.reduceAdd, Nat.reduceLT, Nat.reduceLeDiff, reduceIte, Nat.reduceEqDiff, reduceCtorEq, argEnv, eq_self, if_true, if_false]
    repeat' ((first | rw [guardK_cases] | rw [condK_bool] | rw [guardD_cases]); split <;> simp only [c7, eBase, cells_eItems, isTup_eItems, h9, h10, hs, evX, Int.reduceEq, Int.reduceLT, Int.reduceLE, Nat.reduceMul, Nat.reduceMod, evW, evR, Nat.reduceAdd, Nat.reduceLT, Nat.reduceLeDiff, reduceIte, Nat.reduceEqDiff, reduceCtorEq, argEnv, eq_self, if_true, if_false, *])
    all_goals exact ⟨_, rfl⟩
  | true =>
    by_cases hd : (100 : Int) < (d.size : Int)
    · simp only [c7, eBase, cells_eItems, isTup_eItems, h9, h10, hs, hd, evX, Int.reduceEq, Int.reduceLT, Int.reduceLE, Nat.reduceMul, Nat.reduceMod, evW, fn_eq, evR, Nat.reduceAdd, Nat.reduceLT, Nat.reduceLeDiff, reduceIte, Nat.reduceEqDiff, reduceCtorEq, argEnv, eq_self, if_true, if_false]
      repeat' ((first | rw [guardK_cases] | rw [condK_bool] | rw [guardD_cases]); split <;> simp only [c7, eBase, cells_eItems, isTup_eItems, h9, h10, hs, hd, evX, Int.reduceEq, Int.reduceLT, Int.reduceLE, Nat.reduceMul, Nat.reduceMod, evW, evR, Nat.reduceAdd, Nat.reduceLT, Nat.reduceLeDiff, reduceIte, Nat.reduceEqDiff, reduceCtorEq, argEnv, eq_self, if_true, if_false, *])
      all_goals exact ⟨_, rfl⟩
    · have hl := small_len hs
      have hsame1 : same (insL b f p t d) (insL b f p t d) = true := tell_pos rfl
      have h14a := f14 (insL b f p t d) (insL b f p t d) (by have := insL_len b f p t d; omega)
      rw [hsame1] at h14a
      simp only [c7, eBase, cells_eItems, isTup_eItems, h9, h10, hs, hd, h24, h25, h26, h27, h14a, evX, Int.reduceEq, Int.reduceLT, Int.reduceLE, Nat.reduceMul, Nat.reduceMod, evW, fn_eq, evR, Nat.reduceAdd, Nat.reduceLT, Nat.reduceLeDiff, reduceIte, Nat.reduceEqDiff, reduceCtorEq, argEnv, eq_self, if_true, if_false]
      repeat' ((first | rw [guardK_cases] | rw [condK_bool] | rw [guardD_cases]); split <;> simp only [c7, eBase, cells_eItems, isTup_eItems, h9, h10, hs, hd, h24, h25, h26, h27, h14a, evX, Int.reduceEq, Int.reduceLT, Int.reduceLE, Nat.reduceMul, Nat.reduceMod, evW, evR, Nat.reduceAdd, Nat.reduceLT, Nat.reduceLeDiff, reduceIte, Nat.reduceEqDiff, reduceCtorEq, argEnv, eq_self, if_true, if_false, *])
      all_goals exact ⟨_, rfl⟩
end Go.Proofs.Ytcbmakanokmdjaa.Code
namespace Go.Proofs.Ytcbmakanokmdjaa.Pure
open Go.Proofs.Ytcbmakanokmdjaa.Ev Go.Proofs.Ytcbmakanokmdjaa.Code
theorem PlainInserts (a0 : AV) (t0 : ArgTy true [.str, .int .i64, .sl [.str, .int .i64, .int .i64, .int .i64, .sl [.str, .int .i64, .int .i64], .int .i64, .bool, .bool], .sl [.str, .int .i64, .int .i64, .str]] a0)
    (a1 : AV) (t1 : ArgTy false [.sl [.int .i64, .str]] a1) (a2 : AV) (t2 : ArgTy true [.int .i64, .int .i64, .int .i64, .str] a2) : ∃ H', evC cprog 7 [a0, a1, a2] [] = some (.bool true, H') := by
  obtain ⟨b, rfl, hb⟩ := open_Base t0
  obtain ⟨f, rfl, hf⟩ := open_Items t1
  obtain ⟨p, t, o, d, rfl⟩ := open_Put t2
  exact f7 b hb f hf p t o d
end Go.Proofs.Ytcbmakanokmdjaa.Pure

