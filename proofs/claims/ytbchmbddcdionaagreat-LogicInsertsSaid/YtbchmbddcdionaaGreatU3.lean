/- Texts of ours, joined into one file; each begins with its own remark. -/
import Derived.Test.YtbchmbddcdionaaGreatU2
import Derived.Test.YtbchmbddcdionaaGreatInsP
/- plain: the forest with a new item, of the program and of the document. -/
set_option linter.unusedSimpArgs false
set_option linter.unusedVariables false
namespace Go.Proofs.YtbchmbddcdionaaGreat.Code
open Go.Proofs.YtbchmbddcdionaaGreat.Ev

theorem fn_uIns {call it} {n : Nat} {res : List CRes} {p : List AV → Heap → Option (List AV × Heap)} (args : List AV) (H : Heap) : evFn call it ⟨n, res, .user p, false, false⟩ args H = bodyK res ((p args H).map fun r => (CX.ret, (argEnv 0 r.1, r.2))) := by
  rw [fn_eq]
  simp only [evCode, user_args]
theorem f33r (H : Heap) (b v n bv : Nat) (els : List (List AV)) (row : List AV) (hb : H[b]? = some ⟨v, true, 57, 2, els⟩) (hv : H[bv]? = some ⟨0, true, 57, 2, [row]⟩) (hne : b ≠ bv) (hn : n = els.length) (hr : n < 100000) (i : Nat) (hi : i ≤ n) :
    cal (evC cprog) false 33 [.ref b v 2 0 n, .int .i64 (i : Int), .ref bv 0 2 0 1] H = some (.ref b (v + 1) 2 0 (n + 1), H.set b ⟨v + 1, true, 57, 2, els.take i ++ row :: els.drop i⟩) := by
  rw [cal_of at33, show c33 = ⟨0, [.t 0], .user (pIns 2 57 24), false, false⟩ from rfl, fn_uIns]
  have hc1 : curBlk H b v 2 = some ⟨v, true, 57, 2, els⟩ := by simp [curBlk, hb]
  have hc2 : curBlk H bv 0 2 = some ⟨0, true, 57, 2, [row]⟩ := by simp [curBlk, hv]
  have h : pIns 2 57 24 [.ref b v 2 0 n, .int .i64 (i : Int), .ref bv 0 2 0 1] H = some ([.ref b (v + 1) 2 0 (n + 1)], H.set b ⟨v + 1, true, 57, 2, els.take i ++ row :: els.drop i⟩) := by
    have ht : els.take n = els := List.take_of_length_le (by omega)
    simp only [pIns, hc1, hc2, List.getElem?_cons_zero]
    rw [if_pos ⟨trivial, trivial, trivial, trivial, hne, by omega, by omega, by omega, by unfold reach; omega, by unfold reach; omega⟩, Int.toNat_natCast, ht]
  rw [h]
  simp only [evX, Int.reduceEq, Int.reduceLT, Int.reduceLE, Nat.reduceMul, Nat.reduceMod, evW, fn_eq, evR, Nat.reduceAdd, Nat.reduceLT, Nat.reduceLeDiff, reduceIte, Nat.reduceEqDiff, reduceCtorEq, argEnv, eq_self, if_true, if_false]
  rw [gc_no _ _ _ rfl]
theorem f33n (H : Heap) (bv : Nat) (row : List AV) (hv : H[bv]? = some ⟨0, true, 57, 2, [row]⟩) :
    cal (evC cprog) false 33 [.nil0, .int .i64 0, .ref bv 0 2 0 1] H = some (.ref H.length 0 2 0 1, H ++ [⟨0, true, 57, 2, [row]⟩]) := by
  rw [cal_of at33, show c33 = ⟨0, [.t 0], .user (pIns 2 57 24), false, false⟩ from rfl, fn_uIns]
  have hc2 : curBlk H bv 0 2 = some ⟨0, true, 57, 2, [row]⟩ := by simp [curBlk, hv]
  have h : pIns 2 57 24 [.nil0, .int .i64 0, .ref bv 0 2 0 1] H = some ([.ref H.length 0 2 0 1], H ++ [⟨0, true, 57, 2, [row]⟩]) := by simp [pIns, hc2]
  rw [h]
  simp only [evX, Int.reduceEq, Int.reduceLT, Int.reduceLE, Nat.reduceMul, Nat.reduceMod, evW, fn_eq, evR, Nat.reduceAdd, Nat.reduceLT, Nat.reduceLeDiff, reduceIte, Nat.reduceEqDiff, reduceCtorEq, argEnv, eq_self, if_true, if_false]
noncomputable def insE (b : Base) (f : List Item) (p t : Int) (d : ByteArray) : Int := if placeE b f p t d = 0 then (if 200 ≤ f.length then 4 else 0) else placeE b f p t d
noncomputable def insL (b : Base) (f : List Item) (p t : Int) (d : ByteArray) : List Item := if insE b f p t d = 0 then f.take (placeN b f p t d) ++ ⟨t, d⟩ :: f.drop (placeN b f p t d) else []
noncomputable def insN (b : Base) (f : List Item) (p t : Int) (d : ByteArray) : Int := if insE b f p t d = 0 then (placeN b f p t d : Int) else 0
theorem foldD_le {b : Base} {f : List Item} {t : Int} {s : ByteArray} : ∀ (l : List Nat) (a : Nat), a ≤ f.length → (∀ k ∈ l, k < f.length) → l.foldl (atD b f t s) a ≤ f.length
  | [], a, h, _ => h
  | k :: l, a, h, hl => by
    rw [List.foldl_cons]
    refine foldD_le l _ ?_ fun j hj => hl j (List.mem_cons_of_mem _ hj)
    unfold atD
    split
    · exact (endOf_is b.types f (hl k (List.mem_cons_self ..))).le
    · exact h
theorem place_ok {b : Base} (hb : b.Ok) {f : List Item} {p t : Int} {d : ByteArray} (h : placeE b f p t d = 0) : Right b f ∧ argOk b f p t d = true ∧ twice b f p t (keyOf (tyOf b.types t) d) = false ∧ placeN b f p t d ≤ f.length := by
  have h0 := h
  unfold placeE at h
  split at h
  case isFalse he => exact absurd h he
  rename_i he
  split at h
  case isFalse => cases h
  rename_i hg
  split at h
  · cases h
  rename_i htw
  have hr := (errF_zero hb he).1
  have ha := argOk_at hg
  refine ⟨hr, hg, by simpa using htw, ?_⟩
  unfold placeN
  exact foldD_le _ _ (by omega) fun k hk => (mem_chTo.1 hk).1
def eLIE (l : List Item) (n e : Int) : AV := .tup [eItems l, .int .i64 n, .int .i64 e]
theorem it_rows (l : List Item) : ∀ r ∈ l.map rItem, r.length = 2 := fun r hr => by obtain ⟨_, _, rfl⟩ := List.mem_map.1 hr; rfl
theorem f17 (b : Base) (hb : b.Ok) (f : List Item) (hfl : f.length < 9223372036854775807) (p t : Int) (d : ByteArray) (H : Heap) : cal (evC cprog) true 17 [eBase b, eItems f, .int .i64 p, .int .i64 t, .str d] H = some (eLIE (insL b f p t d) (insN b f p t d) (insE b f p t d), H) := by
  rw [cal_of at17]
  have h50 := f32 b hb f hfl p t d
  simp only [eBase] at h50
  have hlen := (sItems [] f).len
  simp only [List.length_map] at hlen
  by_cases he : placeE b f p t d = 0
  · obtain ⟨hr, _, _, hn⟩ := place_ok hb he
    have hl := hr.len
    have hR : placeR b f p t d = (placeN b f p t d : Int) := if_pos he
    rw [hR, he] at h50
    by_cases h200 : 200 ≤ f.length
    · have h200' : (200 : Int) ≤ (f.length : Int) := by omega
      have e1 : insE b f p t d = 4 := by unfold insE; rw [if_pos he, if_pos h200]
      have e2 : insL b f p t d = [] := by unfold insL; rw [e1]; rfl
      have e3 : insN b f p t d = 0 := by unfold insN; rw [e1]; rfl
      rw [e1, e2, e3]
      simp only [c17, eBase, h50, hlen, h200', evX, Int.reduceEq, Int.reduceLT, Int.reduceLE, Nat.reduceMul, Nat.reduceMod, evW, fn_eq, evR, Nat.reduceAdd, Nat.reduceLT, Nat.reduceLeDiff, reduceIte, Nat.reduceEqDiff, reduceCtorEq, argEnv, eq_self, if_true, if_false]
      exact frz_three (fz_nils _) rfl (by simp) (by simp) _ _ _ _
    · have h200' : ¬ (200 : Int) ≤ (f.length : Int) := by omega
      have e1 : insE b f p t d = 0 := by unfold insE; rw [if_pos he, if_neg h200]
      have e2 : insL b f p t d = f.take (placeN b f p t d) ++ ⟨t, d⟩ :: f.drop (placeN b f p t d) := if_pos e1
      have e3 : insN b f p t d = (placeN b f p t d : Int) := if_pos e1
      rw [e1, e2, e3]
      clear e1 e2 e3 hR
      generalize placeN b f p t d = n at *
      cases hf : f with
      | nil =>
        subst hf
        have hn0 : n = 0 := by simpa using hn
        subst hn0
        have h39 := fun K => clone_nil (ty := 57) (sz := 2) (bytes := 24) at28 K
        have h52 := f33n (H ++ [bBase b, ⟨0, true, 57, 2, [[.int .i64 t, .str d]]⟩]) (H.length + 1) [.int .i64 t, .str d] (by simp)
        simp only [bBase, Int.natCast_zero, eItems, List.map_nil] at h52 h50 hlen h200'
        simp only [c17, eBase, eItems, List.map_nil, h50, hlen, h200', h39, h52, Int.natCast_zero, evX, Int.reduceEq, Int.reduceLT, Int.reduceLE, Nat.reduceMul, Nat.reduceMod, evW, fn_eq, evR, Nat.reduceAdd, Nat.reduceLT, Nat.reduceLeDiff, reduceIte, Nat.reduceEqDiff, reduceCtorEq, argEnv, eq_self, if_true, if_false]
        obtain ⟨ids, g1, g2⟩ := fz_blk (H := H ++ [bBase b, ⟨0, true, 57, 2, [[.int .i64 t, .str d]]⟩, ⟨0, true, 57, 2, [[.int .i64 t, .str d]]⟩]) (b := H.length + 2) (v := 0) (sz := 2) (len := 1) (k := ⟨0, true, 57, 2, [[.int .i64 t, .str d]]⟩) (by simp [curBlk]) (rows := ([⟨t, d⟩] : List Item).map rItem) rfl (plain_items _) 6
        exact frz_three (ids := ids) g1 rfl (by simp) (fun x hx => by have := g2 x hx; omega) _ _ _ _
      | cons y ys =>
        rw [← hf]
        have hf0 : 0 < f.length := by rw [hf]; simp
        clear hf
        have h39 := f28 hf0 (by omega)
        have h52 := f33r (H ++ [bBase b, ⟨0, true, 57, 2, f.map rItem⟩, ⟨0, true, 57, 2, [[.int .i64 t, .str d]]⟩]) (H.length + 1) 0 f.length (H.length + 2) (f.map rItem) [.int .i64 t, .str d] (by simp) (by simp) (by omega) (by simp) (by omega) n hn
        obtain ⟨Z, hZ⟩ : ∃ Z, Z = (H ++ [bBase b, ⟨0, true, 57, 2, f.map rItem⟩, ⟨0, true, 57, 2, [[.int .i64 t, .str d]]⟩]).set (H.length + 1) ⟨0 + 1, true, 57, 2, (f.map rItem).take n ++ [.int .i64 t, .str d] :: (f.map rItem).drop n⟩ := ⟨_, rfl⟩
        rw [← hZ] at h52
        have zb : Z[H.length + 1]? = some ⟨1, true, 57, 2, (f.map rItem).take n ++ [.int .i64 t, .str d] :: (f.map rItem).drop n⟩ := by rw [hZ, List.getElem?_set_self (by simp)]
        have zt : Z.take H.length = H := by rw [hZ, List.take_set_of_le (by omega)]; simp
        clear hZ
        simp only [bBase] at h52
        simp only [c17, eBase, h50, hlen, h200', h39, h52, evX, Int.reduceEq, Int.reduceLT, Int.reduceLE, Nat.reduceMul, Nat.reduceMod, evW, fn_eq, evR, Nat.reduceAdd, Nat.reduceLT, Nat.reduceLeDiff, reduceIte, Nat.reduceEqDiff, reduceCtorEq, argEnv, eq_self, if_true, if_false]
        have hrows : (f.map rItem).take n ++ [.int .i64 t, .str d] :: (f.map rItem).drop n = (f.take n ++ ⟨t, d⟩ :: f.drop n).map rItem := by simp [rItem]
        obtain ⟨ids, g1, g2⟩ := fz_blk (H := Z) (b := H.length + 1) (v := 1) (sz := 2) (len := f.length + 1) (k := ⟨1, true, 57, 2, (f.map rItem).take n ++ [.int .i64 t, .str d] :: (f.map rItem).drop n⟩) (by simp [curBlk, zb]) (rows := (f.take n ++ ⟨t, d⟩ :: f.drop n).map rItem) (by
          rw [hrows, List.take_of_length_le (by simp; omega)]) (plain_items _) 6
        exact frz_three (ids := ids) g1 rfl zt (fun x hx => by have := g2 x hx; omega) _ _ _ _
  · have e1 : insE b f p t d = placeE b f p t d := if_neg he
    have e2 : insL b f p t d = [] := by unfold insL; rw [e1, if_neg he]
    have e3 : insN b f p t d = 0 := by unfold insN; rw [e1, if_neg he]
    rw [e1, e2, e3]
    simp only [c17, eBase, h50, he, evX, Int.reduceEq, Int.reduceLT, Int.reduceLE, Nat.reduceMul, Nat.reduceMod, evW, fn_eq, evR, Nat.reduceAdd, Nat.reduceLT, Nat.reduceLeDiff, reduceIte, Nat.reduceEqDiff, reduceCtorEq, argEnv, eq_self, if_true, if_false]
    exact frz_three (fz_nils _) rfl (by simp) (by simp) _ _ _ _
theorem f20 (b : Base) (hb : b.Ok) (f : List Item) (hfl : f.length < 9223372036854775807) (p t : Int) (d : ByteArray) (H : Heap) : cal (evC cprog) true 20 [eBase b, eItems f, .int .i64 p, .int .i64 t, .str d] H = some (eLIE (insL b f p t d) (insN b f p t d) (insE b f p t d), H) := by
  rw [cal_of at20]
  have h51 := f38 b hb f hfl p t d
  simp only [eBase] at h51
  have hlen := (sItems [] f).len
  simp only [List.length_map] at hlen
  by_cases he : placeE b f p t d = 0
  · obtain ⟨hr, _, _, hn⟩ := place_ok hb he
    have hl := hr.len
    have hR : placeR b f p t d = (placeN b f p t d : Int) := if_pos he
    rw [hR, he] at h51
    by_cases h200 : 200 ≤ f.length
    · have h200' : ((f.length : Int) = 200) = True := eq_true (by omega)
      have e1 : insE b f p t d = 4 := by unfold insE; rw [if_pos he, if_pos h200]
      have e2 : insL b f p t d = [] := by unfold insL; rw [e1]; rfl
      have e3 : insN b f p t d = 0 := by unfold insN; rw [e1]; rfl
      rw [e1, e2, e3]
      simp only [c20, eBase, h51, hlen, h200', evX, Int.reduceEq, Int.reduceLT, Int.reduceLE, Nat.reduceMul, Nat.reduceMod, evW, fn_eq, evR, Nat.reduceAdd, Nat.reduceLT, Nat.reduceLeDiff, reduceIte, Nat.reduceEqDiff, reduceCtorEq, argEnv, eq_self, if_true, if_false]
      exact frz_three (fz_nils _) rfl (by simp) (by simp) _ _ _ _
    · have h200' : ((f.length : Int) = 200) = False := eq_false (by omega)
      have e1 : insE b f p t d = 0 := by unfold insE; rw [if_pos he, if_neg h200]
      have e2 : insL b f p t d = f.take (placeN b f p t d) ++ ⟨t, d⟩ :: f.drop (placeN b f p t d) := if_pos e1
      have e3 : insN b f p t d = (placeN b f p t d : Int) := if_pos e1
      rw [e1, e2, e3]
      clear e1 e2 e3 hR
      generalize placeN b f p t d = n at *
      have hs1 := fun H => slc_take rItem (sz := 2) (fun _ => rfl) H f (i := n) (by omega)
      have hs2 := fun H => slc_drop rItem (sz := 2) (fun _ => rfl) H f (i := n) hn
      change ∀ H, evSlc H 2 (eItems f) _ _ _ = _ at hs1
      change ∀ H, evSlc H 2 (eItems f) _ _ _ = _ at hs2
      obtain ⟨rv1, X1, a1, a2, a3⟩ := (Out.nil0 (H ++ [bBase b]).length 2 57 []).app (H ++ [bBase b]) rfl 24 (.lst ((f.take n).map rItem)) _ rfl (it_rows _) (by simp [reach]; omega)
      obtain ⟨rv2, X2, b1, b2, b3⟩ := a3.app (H ++ [bBase b]) rfl 24 (.lst [[.int .i64 t, .str d]]) [[.int .i64 t, .str d]] rfl (by simp) (by simp [reach]; omega)
      obtain ⟨rv3, X3, d1, d2, d3⟩ := b3.app (H ++ [bBase b]) rfl 24 (.lst ((f.drop n).map rItem)) _ rfl (it_rows _) (by simp [reach]; omega)
      simp only [List.append_assoc, List.append_nil, List.cons_append, List.nil_append, bBase] at a1 b1 d1
      simp only [c20, eBase, h51, hlen, h200', hs1, hs2, asNat_cast, a1, a2, b1, b2, d1, d2, evX, Int.reduceEq, Int.reduceLT, Int.reduceLE, Nat.reduceMul, Nat.reduceMod, evW, fn_eq, evR, Nat.reduceAdd, Nat.reduceLT, Nat.reduceLeDiff, reduceIte, Nat.reduceEqDiff, reduceCtorEq, argEnv, eq_self, if_true, if_false]
      have hrows : [] ++ (f.take n).map rItem ++ [[.int .i64 t, .str d]] ++ (f.drop n).map rItem = (f.take n ++ ⟨t, d⟩ :: f.drop n).map rItem := by simp [rItem]
      rw [hrows] at d3
      obtain ⟨ids, g1, g2, g3⟩ := fz_out' d3 (H ++ [bBase b]) rfl (plain_items _)
      exact frz_three (ids := ids) (by simpa [bBase] using g1) g3 (by simp) (fun x hx => by have := g2 x hx; simp at this; omega) _ _ _ _
  · have e1 : insE b f p t d = placeE b f p t d := if_neg he
    have e2 : insL b f p t d = [] := by unfold insL; rw [e1, if_neg he]
    have e3 : insN b f p t d = 0 := by unfold insN; rw [e1, if_neg he]
    rw [e1, e2, e3]
    simp only [c20, eBase, h51, he, evX, Int.reduceEq, Int.reduceLT, Int.reduceLE, Nat.reduceMul, Nat.reduceMod, evW, fn_eq, evR, Nat.reduceAdd, Nat.reduceLT, Nat.reduceLeDiff, reduceIte, Nat.reduceEqDiff, reduceCtorEq, argEnv, eq_self, if_true, if_false]
    exact frz_three (fz_nils _) rfl (by simp) (by simp) _ _ _ _
end Go.Proofs.YtbchmbddcdionaaGreat.Code

/- logic: what a rule forbids; Insert and Replace of the program and of the document (numbers of this seat). -/
set_option linter.unusedSimpArgs false
set_option linter.unusedVariables false
namespace Go.Proofs.YtbchmbddcdionaaGreat.Code
open Go.Proofs.YtbchmbddcdionaaGreat.Ev

def forb (x : Pr) (t : Int) (d : ByteArray) : Bool := decide (t = x.l.child) && !decide (x.l.rule = ⟨#[76]⟩) && decide (upI x d < 0)
theorem f18 (x : Pr) (h : x.Ok) (t : Int) (d : ByteArray) (hd : fits x.a.types ⟨t, d⟩ = true) (n : Nat) (H : Heap) (hs : Sits H n (bPair x)) : cal (evC cprog) false 18 [.ptr n 0 13 0 0, .int .i64 t, .str d] H = some (.bool (forb x t d), H) := by
  rw [cal_of at18]
  have g0 := hs.at
  have h34 := f34 x h (kOf x d) n H hs
  by_cases ht : t = x.l.child
  · have h35 := f35 x h d (by rw [← ht]; exact hd) n H hs
    simp only [bPair, Sits] at hs g0
    by_cases hr : x.l.rule = ⟨#[76]⟩
    · simp only [c18, nck_ptr, hs, g0, ht, hr, evX, Int.reduceEq, Int.reduceLT, Int.reduceLE, Nat.reduceMul, Nat.reduceMod, evW, fn_eq, evR, Nat.reduceAdd, Nat.reduceLT, Nat.reduceLeDiff, reduceIte, Nat.reduceEqDiff, reduceCtorEq, argEnv, eq_self, if_true, if_false]
      all_goals simp [forb, hr]
    · simp only [c18, nck_ptr, hs, g0, ht, hr, h34, h35, evX, Int.reduceEq, Int.reduceLT, Int.reduceLE, Nat.reduceMul, Nat.reduceMod, evW, fn_eq, evR, Nat.reduceAdd, Nat.reduceLT, Nat.reduceLeDiff, reduceIte, Nat.reduceEqDiff, reduceCtorEq, argEnv, eq_self, if_true, if_false]
      all_goals (simp [forb, hr, upI]; try exact decide_eq_decide.2 Iff.rfl)
  · simp only [bPair, Sits] at hs g0
    simp only [c18, nck_ptr, hs, g0, ht, evX, Int.reduceEq, Int.reduceLT, Int.reduceLE, Nat.reduceMul, Nat.reduceMod, evW, fn_eq, evR, Nat.reduceAdd, Nat.reduceLT, Nat.reduceLeDiff, reduceIte, Nat.reduceEqDiff, reduceCtorEq, argEnv, eq_self, if_true, if_false]
    all_goals simp [forb, ht]
theorem f21 (x : Pr) (h : x.Ok) (t : Int) (d : ByteArray) (hd : fits x.a.types ⟨t, d⟩ = true) (H : Heap) : cal (evC cprog) false 21 [eBase x.a, eBase x.b, eLink x.l, eItems x.g, .int .i64 t, .str d] H = some (.bool (forb x t d), H) := by
  rw [cal_of at21]
  by_cases ht : t = x.l.child
  · have h39 := f39 x h d (by rw [← ht]; exact hd)
    simp only [eBase, eLink] at h39
    by_cases hr : x.l.rule = ⟨#[76]⟩
    · simp only [c21, eBase, eLink, ht, hr, evX, Int.reduceEq, Int.reduceLT, Int.reduceLE, Nat.reduceMul, Nat.reduceMod, evW, fn_eq, evR, Nat.reduceAdd, Nat.reduceLT, Nat.reduceLeDiff, reduceIte, Nat.reduceEqDiff, reduceCtorEq, argEnv, eq_self, if_true, if_false]
      all_goals simp [forb, hr]
    · simp only [c21, eBase, eLink, ht, hr, h39, evX, Int.reduceEq, Int.reduceLT, Int.reduceLE, Nat.reduceMul, Nat.reduceMod, evW, fn_eq, evR, Nat.reduceAdd, Nat.reduceLT, Nat.reduceLeDiff, reduceIte, Nat.reduceEqDiff, reduceCtorEq, argEnv, eq_self, if_true, if_false]
      all_goals simp [forb, hr]
  · simp only [c21, eBase, eLink, ht, evX, Int.reduceEq, Int.reduceLT, Int.reduceLE, Nat.reduceMul, Nat.reduceMod, evW, fn_eq, evR, Nat.reduceAdd, Nat.reduceLT, Nat.reduceLeDiff, reduceIte, Nat.reduceEqDiff, reduceCtorEq, argEnv, eq_self, if_true, if_false]
    all_goals simp [forb, ht]
noncomputable def lgOk (x : Pr) (p t : Int) (d : ByteArray) : Bool := decide (askE x = 0) && !(!decide (insE x.a x.f p t d = 2) && forb x t d)
noncomputable def lgL (x : Pr) (p t : Int) (d : ByteArray) : List Item := if lgOk x p t d = true then insL x.a x.f p t d else []
noncomputable def lgN (x : Pr) (p t : Int) (d : ByteArray) : Int := if lgOk x p t d = true then insN x.a x.f p t d else 0
noncomputable def lgE (x : Pr) (p t : Int) (d : ByteArray) : Int := if askE x = 0 then (if lgOk x p t d = true then insE x.a x.f p t d else 181) else askE x
theorem ins_fits {x : Pr} (h : x.Ok) {p t : Int} {d : ByteArray} (hn : insE x.a x.f p t d ≠ 2) : fits x.a.types ⟨t, d⟩ = true := by
  have he : errF x.a x.f [] = 0 := by rw [errF_nil h.va, if_pos h.f]
  cases ha : argOk x.a x.f p t d with
  | true => exact (argOk_at ha).2.2.1
  | false =>
    have : placeE x.a x.f p t d = 2 := by unfold placeE; rw [if_pos he, if_neg (by rw [ha]; simp)]
    unfold insE at hn
    rw [this] at hn
    exact absurd rfl hn
theorem fz_lst (H : Heap) (l : List (List AV)) : fz H fzDepth (.lst l) = some (.lst l, []) := rfl
theorem f6 (x : Pr) (h : x.Raw) (p t : Int) (d : ByteArray) (H : Heap) : cal (evC cprog) true 6 [eBase x.a, eBase x.b, eLink x.l, eItems x.f, eItems x.g, .int .i64 p, .int .i64 t, .str d] H = some (eLIE (lgL x p t d) (lgN x p t d) (lgE x p t d), H) := by
  rw [cal_of at6]
  by_cases h0 : askE x = 0
  · obtain ⟨hok, hag⟩ := ask_ok h h0
    have h16 := f35_ok x hok hag
    have h17 := f17 x.a h.a x.f h.f p t d
    by_cases he : insE x.a x.f p t d = 2
    · have e0 : lgOk x p t d = true := by simp [lgOk, h0, he]
      rw [show lgL x p t d = insL x.a x.f p t d from if_pos e0, show lgN x p t d = insN x.a x.f p t d from if_pos e0, show lgE x p t d = insE x.a x.f p t d by unfold lgE; rw [if_pos h0, if_pos e0]]
      rw [he] at h17 ⊢
      simp only [eBase, eLink, bBase, bLink, bPair, eLIE] at h16 h17
      simp only [c6, eBase, eLink, h16, h17, eLIE, evX, Int.reduceEq, Int.reduceLT, Int.reduceLE, Nat.reduceMul, Nat.reduceMod, evW, fn_eq, evR, Nat.reduceAdd, Nat.reduceLT, Nat.reduceLeDiff, reduceIte, Nat.reduceEqDiff, reduceCtorEq, argEnv, eq_self, if_true, if_false]
      exact frz_three (fz_lst _ _) rfl (by simp) (by simp) _ _ _ _
    · have h18 := f18 x hok t d (ins_fits hok he) (H.length + 9) (H ++ [bBase x.a, bBase x.b, bLink x.l, bBase x.a, bBase x.b, bLink x.l, bBase x.a, bBase x.b, bLink x.l, bPair x]) (.mk (by simp))
      cases hf : forb x t d with
      | false =>
        have e0 : lgOk x p t d = true := by simp [lgOk, h0, hf]
        rw [show lgL x p t d = insL x.a x.f p t d from if_pos e0, show lgN x p t d = insN x.a x.f p t d from if_pos e0, show lgE x p t d = insE x.a x.f p t d by unfold lgE; rw [if_pos h0, if_pos e0]]
        rw [hf] at h18
        simp only [eBase, eLink, bBase, bLink, bPair, eLIE] at h16 h17 h18
        simp only [c6, eBase, eLink, h16, h17, h18, he, eLIE, evX, Int.reduceEq, Int.reduceLT, Int.reduceLE, Nat.reduceMul, Nat.reduceMod, evW, fn_eq, evR, Nat.reduceAdd, Nat.reduceLT, Nat.reduceLeDiff, reduceIte, Nat.reduceEqDiff, reduceCtorEq, argEnv, eq_self, if_true, if_false]
        exact frz_three (fz_lst _ _) rfl (by simp) (by simp) _ _ _ _
      | true =>
        have e0 : ¬ lgOk x p t d = true := by simp [lgOk, hf, he]
        rw [show lgL x p t d = [] from if_neg e0, show lgN x p t d = 0 from if_neg e0, show lgE x p t d = 181 by unfold lgE; rw [if_pos h0, if_neg e0]]
        rw [hf] at h18
        simp only [eBase, eLink, bBase, bLink, bPair, eLIE] at h16 h17 h18
        simp only [c6, eBase, eLink, h16, h17, h18, he, eLIE, evX, Int.reduceEq, Int.reduceLT, Int.reduceLE, Nat.reduceMul, Nat.reduceMod, evW, fn_eq, evR, Nat.reduceAdd, Nat.reduceLT, Nat.reduceLeDiff, reduceIte, Nat.reduceEqDiff, reduceCtorEq, argEnv, eq_self, if_true, if_false]
        exact frz_three (fz_nils _) rfl (by simp) (by simp) _ _ _ _
  · have h16 := f35_err x h h0
    simp only [eBase, eLink] at h16
    have e0 : ¬ lgOk x p t d = true := by simp [lgOk, h0]
    rw [show lgL x p t d = [] from if_neg e0, show lgN x p t d = 0 from if_neg e0, show lgE x p t d = askE x by unfold lgE; rw [if_neg h0]]
    simp only [c6, eBase, eLink, h16, h0, eLIE, evX, Int.reduceEq, Int.reduceLT, Int.reduceLE, Nat.reduceMul, Nat.reduceMod, evW, fn_eq, evR, Nat.reduceAdd, Nat.reduceLT, Nat.reduceLeDiff, reduceIte, Nat.reduceEqDiff, reduceCtorEq, argEnv, eq_self, if_true, if_false]
    exact frz_three (fz_nils _) rfl (by simp) (by simp) _ _ _ _
theorem f7 (x : Pr) (h : x.Raw) (p t : Int) (d : ByteArray) (H : Heap) : cal (evC cprog) true 7 [eBase x.a, eBase x.b, eLink x.l, eItems x.f, eItems x.g, .int .i64 p, .int .i64 t, .str d] H = some (eLIE (lgL x p t d) (lgN x p t d) (lgE x p t d), H) := by
  rw [cal_of at7]
  have h19 := f19 x h
  by_cases h0 : askE x = 0
  · obtain ⟨hok, hag⟩ := ask_ok h h0
    have h20 := f20 x.a h.a x.f h.f p t d
    rw [h0] at h19
    by_cases he : insE x.a x.f p t d = 2
    · have e0 : lgOk x p t d = true := by simp [lgOk, h0, he]
      rw [show lgL x p t d = insL x.a x.f p t d from if_pos e0, show lgN x p t d = insN x.a x.f p t d from if_pos e0, show lgE x p t d = insE x.a x.f p t d by unfold lgE; rw [if_pos h0, if_pos e0]]
      rw [he] at h20 ⊢
      simp only [eBase, eLink, eLIE] at h19 h20
      simp only [c7, eBase, eLink, h19, h20, eLIE, evX, Int.reduceEq, Int.reduceLT, Int.reduceLE, Nat.reduceMul, Nat.reduceMod, evW, fn_eq, evR, Nat.reduceAdd, Nat.reduceLT, Nat.reduceLeDiff, reduceIte, Nat.reduceEqDiff, reduceCtorEq, argEnv, eq_self, if_true, if_false]
      exact frz_three (fz_lst _ _) rfl (by simp) (by simp) _ _ _ _
    · have h21 := f21 x hok t d (ins_fits hok he)
      cases hf : forb x t d with
      | false =>
        have e0 : lgOk x p t d = true := by simp [lgOk, h0, hf]
        rw [show lgL x p t d = insL x.a x.f p t d from if_pos e0, show lgN x p t d = insN x.a x.f p t d from if_pos e0, show lgE x p t d = insE x.a x.f p t d by unfold lgE; rw [if_pos h0, if_pos e0]]
        rw [hf] at h21
        simp only [eBase, eLink, eLIE] at h19 h20 h21
        simp only [c7, eBase, eLink, h19, h20, h21, he, eLIE, evX, Int.reduceEq, Int.reduceLT, Int.reduceLE, Nat.reduceMul, Nat.reduceMod, evW, fn_eq, evR, Nat.reduceAdd, Nat.reduceLT, Nat.reduceLeDiff, reduceIte, Nat.reduceEqDiff, reduceCtorEq, argEnv, eq_self, if_true, if_false]
        exact frz_three (fz_lst _ _) rfl (by simp) (by simp) _ _ _ _
      | true =>
        have e0 : ¬ lgOk x p t d = true := by simp [lgOk, hf, he]
        rw [show lgL x p t d = [] from if_neg e0, show lgN x p t d = 0 from if_neg e0, show lgE x p t d = 181 by unfold lgE; rw [if_pos h0, if_neg e0]]
        rw [hf] at h21
        simp only [eBase, eLink, eLIE] at h19 h20 h21
        simp only [c7, eBase, eLink, h19, h20, h21, he, eLIE, evX, Int.reduceEq, Int.reduceLT, Int.reduceLE, Nat.reduceMul, Nat.reduceMod, evW, fn_eq, evR, Nat.reduceAdd, Nat.reduceLT, Nat.reduceLeDiff, reduceIte, Nat.reduceEqDiff, reduceCtorEq, argEnv, eq_self, if_true, if_false]
        exact frz_three (fz_nils _) rfl (by simp) (by simp) _ _ _ _
  · simp only [eBase, eLink] at h19
    have e0 : ¬ lgOk x p t d = true := by simp [lgOk, h0]
    rw [show lgL x p t d = [] from if_neg e0, show lgN x p t d = 0 from if_neg e0, show lgE x p t d = askE x by unfold lgE; rw [if_neg h0]]
    simp only [c7, eBase, eLink, h19, h0, eLIE, evX, Int.reduceEq, Int.reduceLT, Int.reduceLE, Nat.reduceMul, Nat.reduceMod, evW, fn_eq, evR, Nat.reduceAdd, Nat.reduceLT, Nat.reduceLeDiff, reduceIte, Nat.reduceEqDiff, reduceCtorEq, argEnv, eq_self, if_true, if_false]
    exact frz_three (fz_nils _) rfl (by simp) (by simp) _ _ _ _
end Go.Proofs.YtbchmbddcdionaaGreat.Code

/- logic: Replace of the program and of the document. -/
set_option linter.unusedSimpArgs false
set_option linter.unusedVariables false
namespace Go.Proofs.YtbchmbddcdionaaGreat.Code
open Go.Proofs.YtbchmbddcdionaaGreat.Ev

noncomputable def rpOk (x : Pr) (i : Int) (d : ByteArray) : Bool := decide (askE x = 0) && !(decide (repE x.a x.f i d = 0) && forb x (typ x.f i) d)
noncomputable def rpL (x : Pr) (i : Int) (d : ByteArray) : List Item := if rpOk x i d = true then repL x.a x.f i d else []
noncomputable def rpE (x : Pr) (i : Int) (d : ByteArray) : Int := if askE x = 0 then (if rpOk x i d = true then repE x.a x.f i d else 181) else askE x
theorem rep_item {x : Pr} (h : x.Ok) {i : Int} {d : ByteArray} (h0 : repE x.a x.f i d = 0) : ∃ (j : Nat) (y : Item), i = (j : Int) ∧ j < x.f.length ∧ x.f[j]? = some y ∧ typ x.f i = y.type ∧ fits x.a.types ⟨y.type, d⟩ = true := by
  unfold repE at h0
  split at h0
  · rename_i he
    obtain ⟨_, ho⟩ := errF_zero h.a he
    obtain ⟨h1, h2⟩ := ho i (by simp)
    obtain ⟨j, rfl⟩ : ∃ j : Nat, i = (j : Int) := ⟨i.toNat, by omega⟩
    rw [Int.toNat_natCast] at h0
    cases hy : x.f[j]? with
    | none => rw [hy] at h0; cases h0
    | some y =>
      rw [hy] at h0
      simp only at h0
      split at h0
      · rename_i hm
        simp only [mayR, Bool.and_eq_true] at hm
        exact ⟨j, y, rfl, by omega, hy, typ_at hy, hm.1⟩
      · cases h0
  · rename_i he; exact absurd h0 he
theorem f9 (x : Pr) (h : x.Raw) (i : Int) (d : ByteArray) (H : Heap) : cal (evC cprog) true 9 [eBase x.a, eBase x.b, eLink x.l, eItems x.f, eItems x.g, .int .i64 i, .str d] H = some (eLE (rpL x i d) (rpE x i d), H) := by
  rw [cal_of at9]
  by_cases h0 : askE x = 0
  · obtain ⟨hok, hag⟩ := ask_ok h h0
    have h16 := f35_ok x hok hag
    have h22 := f22 x.a h.a x.f h.f i d
    by_cases he : repE x.a x.f i d = 0
    · obtain ⟨j, y, rfl, hj, hy, hty, hfit⟩ := rep_item hok he
      have ha := aItem hy
      have h18 := f18 x hok y.type d hfit (H.length + 9) (H ++ [bBase x.a, bBase x.b, bLink x.l, bBase x.a, bBase x.b, bLink x.l, bBase x.a, bBase x.b, bLink x.l, bPair x]) (.mk (by simp))
      cases hf : forb x y.type d with
      | false =>
        have e0 : rpOk x (j : Int) d = true := by simp [rpOk, h0, hty, hf]
        rw [show rpL x (j : Int) d = repL x.a x.f (j : Int) d from if_pos e0, show rpE x (j : Int) d = repE x.a x.f (j : Int) d by unfold rpE; rw [if_pos h0, if_pos e0]]
        rw [hf] at h18
        rw [he] at h22 ⊢
        simp only [eBase, eLink, bBase, bLink, bPair, eLE] at h16 h22 h18
        simp only [c9, eBase, eLink, h16, h22, h18, ha, rItem, eLE, evX, Int.reduceEq, Int.reduceLT, Int.reduceLE, Nat.reduceMul, Nat.reduceMod, evW, fn_eq, evR, Nat.reduceAdd, Nat.reduceLT, Nat.reduceLeDiff, reduceIte, Nat.reduceEqDiff, reduceCtorEq, argEnv, eq_self, if_true, if_false]
        exact frz_two (fz_lst _ _) rfl (by simp) (by simp) _ _
      | true =>
        have e0 : ¬ rpOk x (j : Int) d = true := by simp [rpOk, hty, hf, he]
        rw [show rpL x (j : Int) d = [] from if_neg e0, show rpE x (j : Int) d = 181 by unfold rpE; rw [if_pos h0, if_neg e0]]
        rw [hf] at h18
        rw [he] at h22
        simp only [eBase, eLink, bBase, bLink, bPair, eLE] at h16 h22 h18
        simp only [c9, eBase, eLink, h16, h22, h18, ha, rItem, eLE, evX, Int.reduceEq, Int.reduceLT, Int.reduceLE, Nat.reduceMul, Nat.reduceMod, evW, fn_eq, evR, Nat.reduceAdd, Nat.reduceLT, Nat.reduceLeDiff, reduceIte, Nat.reduceEqDiff, reduceCtorEq, argEnv, eq_self, if_true, if_false]
        exact frz_two (fz_nils _) rfl (by simp) (by simp) _ _
    · have e0 : rpOk x i d = true := by simp [rpOk, h0, he]
      rw [show rpL x i d = repL x.a x.f i d from if_pos e0, show rpE x i d = repE x.a x.f i d by unfold rpE; rw [if_pos h0, if_pos e0]]
      simp only [eBase, eLink, bBase, bLink, bPair, eLE] at h16 h22
      simp only [c9, eBase, eLink, h16, h22, he, eLE, evX, Int.reduceEq, Int.reduceLT, Int.reduceLE, Nat.reduceMul, Nat.reduceMod, evW, fn_eq, evR, Nat.reduceAdd, Nat.reduceLT, Nat.reduceLeDiff, reduceIte, Nat.reduceEqDiff, reduceCtorEq, argEnv, eq_self, if_true, if_false]
      exact frz_two (fz_lst _ _) rfl (by simp) (by simp) _ _
  · have h16 := f35_err x h h0
    simp only [eBase, eLink] at h16
    have e0 : ¬ rpOk x i d = true := by simp [rpOk, h0]
    rw [show rpL x i d = [] from if_neg e0, show rpE x i d = askE x by unfold rpE; rw [if_neg h0]]
    simp only [c9, eBase, eLink, h16, h0, eLE, evX, Int.reduceEq, Int.reduceLT, Int.reduceLE, Nat.reduceMul, Nat.reduceMod, evW, fn_eq, evR, Nat.reduceAdd, Nat.reduceLT, Nat.reduceLeDiff, reduceIte, Nat.reduceEqDiff, reduceCtorEq, argEnv, eq_self, if_true, if_false]
    exact frz_two (fz_nils _) rfl (by simp) (by simp) _ _
theorem f10 (x : Pr) (h : x.Raw) (i : Int) (d : ByteArray) (H : Heap) : cal (evC cprog) true 10 [eBase x.a, eBase x.b, eLink x.l, eItems x.f, eItems x.g, .int .i64 i, .str d] H = some (eLE (rpL x i d) (rpE x i d), H) := by
  rw [cal_of at10]
  have h19 := f19 x h
  by_cases h0 : askE x = 0
  · obtain ⟨hok, hag⟩ := ask_ok h h0
    have h23 := f23 x.a h.a x.f h.f i d
    rw [h0] at h19
    by_cases he : repE x.a x.f i d = 0
    · obtain ⟨j, y, rfl, hj, hy, hty, hfit⟩ := rep_item hok he
      have ha := aItem hy
      have h21 := f21 x hok y.type d hfit
      cases hf : forb x y.type d with
      | false =>
        have e0 : rpOk x (j : Int) d = true := by simp [rpOk, h0, hty, hf]
        rw [show rpL x (j : Int) d = repL x.a x.f (j : Int) d from if_pos e0, show rpE x (j : Int) d = repE x.a x.f (j : Int) d by unfold rpE; rw [if_pos h0, if_pos e0]]
        rw [hf] at h21
        rw [he] at h23 ⊢
        simp only [eBase, eLink, eLE] at h19 h23 h21
        simp only [c10, eBase, eLink, h19, h23, h21, ha, rItem, eLE, evX, Int.reduceEq, Int.reduceLT, Int.reduceLE, Nat.reduceMul, Nat.reduceMod, evW, fn_eq, evR, Nat.reduceAdd, Nat.reduceLT, Nat.reduceLeDiff, reduceIte, Nat.reduceEqDiff, reduceCtorEq, argEnv, eq_self, if_true, if_false]
        exact frz_two (fz_lst _ _) rfl (by simp) (by simp) _ _
      | true =>
        have e0 : ¬ rpOk x (j : Int) d = true := by simp [rpOk, hty, hf, he]
        rw [show rpL x (j : Int) d = [] from if_neg e0, show rpE x (j : Int) d = 181 by unfold rpE; rw [if_pos h0, if_neg e0]]
        rw [hf] at h21
        rw [he] at h23
        simp only [eBase, eLink, eLE] at h19 h23 h21
        simp only [c10, eBase, eLink, h19, h23, h21, ha, rItem, eLE, evX, Int.reduceEq, Int.reduceLT, Int.reduceLE, Nat.reduceMul, Nat.reduceMod, evW, fn_eq, evR, Nat.reduceAdd, Nat.reduceLT, Nat.reduceLeDiff, reduceIte, Nat.reduceEqDiff, reduceCtorEq, argEnv, eq_self, if_true, if_false]
        exact frz_two (fz_nils _) rfl (by simp) (by simp) _ _
    · have e0 : rpOk x i d = true := by simp [rpOk, h0, he]
      rw [show rpL x i d = repL x.a x.f i d from if_pos e0, show rpE x i d = repE x.a x.f i d by unfold rpE; rw [if_pos h0, if_pos e0]]
      simp only [eBase, eLink, eLE] at h19 h23
      simp only [c10, eBase, eLink, h19, h23, he, eLE, evX, Int.reduceEq, Int.reduceLT, Int.reduceLE, Nat.reduceMul, Nat.reduceMod, evW, fn_eq, evR, Nat.reduceAdd, Nat.reduceLT, Nat.reduceLeDiff, reduceIte, Nat.reduceEqDiff, reduceCtorEq, argEnv, eq_self, if_true, if_false]
      exact frz_two (fz_lst _ _) rfl (by simp) (by simp) _ _
  · simp only [eBase, eLink] at h19
    have e0 : ¬ rpOk x i d = true := by simp [rpOk, h0]
    rw [show rpL x i d = [] from if_neg e0, show rpE x i d = askE x by unfold rpE; rw [if_neg h0]]
    simp only [c10, eBase, eLink, h19, h0, eLE, evX, Int.reduceEq, Int.reduceLT, Int.reduceLE, Nat.reduceMul, Nat.reduceMod, evW, fn_eq, evR, Nat.reduceAdd, Nat.reduceLT, Nat.reduceLeDiff, reduceIte, Nat.reduceEqDiff, reduceCtorEq, argEnv, eq_self, if_true, if_false]
    exact frz_two (fz_nils _) rfl (by simp) (by simp) _ _
end Go.Proofs.YtbchmbddcdionaaGreat.Code

/- The law LogicInserts is true. -/
set_option linter.unusedSimpArgs false
set_option linter.unusedVariables false
namespace Go.Proofs.YtbchmbddcdionaaGreat.Code
open Go.Proofs.YtbchmbddcdionaaGreat.Ev

theorem insL_len (b : Base) (f : List Item) (p t : Int) (d : ByteArray) : (insL b f p t d).length ≤ f.length + 1 + f.length := by
  unfold insL
  split
  · simp; omega
  · simp
theorem lgL_len (x : Pr) (p t : Int) (d : ByteArray) : (lgL x p t d).length ≤ x.f.length + 1 + x.f.length := by
  unfold lgL
  split
  · exact insL_len _ _ _ _ _
  · simp
theorem rpL_len (x : Pr) (i : Int) (d : ByteArray) : (rpL x i d).length ≤ x.f.length := by
  unfold rpL repL
  split
  · split <;> simp
  · simp
theorem f3 (x : Pr) (h : x.Raw) (p t i : Int) (d : ByteArray) : ∃ H', evC cprog 3 [eTwo x, .agg [.int .i64 p, .int .i64 t, .int .i64 i], .str d] [] = some (.bool true, H') := by
  obtain ⟨s, h4, hs⟩ := f4 x h ([⟨0, true, 30, 13, [[.str x.a.name, .int .i64 x.a.kind, eTys x.a.types, eSes x.a.indexes, .str x.b.name, .int .i64 x.b.kind, eTys x.b.types, eSes x.b.indexes, .int .i64 x.l.child, .int .i64 x.l.field, .str x.l.rule, eItems x.f, eItems x.g]]⟩, ⟨0, true, 31, 3, [[.int .i64 p, .int .i64 t, .int .i64 i]]⟩])
  have h5 := f5
  have h6 := f6 x h p t d
  have h7 := f7 x h p t d
  have h9 := f9 x h i d
  have h10 := f10 x h i d
  simp only [eBase, eLink, eTwo, eLIE, eLE] at h4 h6 h7 h9 h10
  rw [evC_fn at3]
  cases s with
  | false =>
    simp only [c3, eTwo, h4, h5, evX, Int.reduceEq, Int.reduceLT, Int.reduceLE, Nat.reduceMul, Nat.reduceMod, evW, fn_eq, evR, Nat.reduceAdd, Nat.reduceLT, Nat.reduceLeDiff, reduceIte, Nat.reduceEqDiff, reduceCtorEq, argEnv, eq_self, if_true, if_false]
    all_goals exact ⟨_, rfl⟩
  | true =>
    have hl := hs rfl
    by_cases hd : (100 : Int) < (d.size : Int)
    · simp only [c3, eTwo, h4, h5, hd, evX, Int.reduceEq, Int.reduceLT, Int.reduceLE, Nat.reduceMul, Nat.reduceMod, evW, fn_eq, evR, Nat.reduceAdd, Nat.reduceLT, Nat.reduceLeDiff, reduceIte, Nat.reduceEqDiff, reduceCtorEq, argEnv, eq_self, if_true, if_false]
      all_goals exact ⟨_, rfl⟩
    · have s1 : same (lgL x p t d) (lgL x p t d) = true := tell_pos rfl
      have s2 : same (rpL x i d) (rpL x i d) = true := tell_pos rfl
      have h8a := f8 (lgL x p t d) (lgL x p t d) (by have := lgL_len x p t d; omega)
      have h8b := f8 (rpL x i d) (rpL x i d) (by have := rpL_len x i d; omega)
      rw [s1] at h8a
      rw [s2] at h8b
      simp only [c3, eTwo, h4, h5, hd, h6, h7, h8a, h8b, h9, h10, evX, Int.reduceEq, Int.reduceLT, Int.reduceLE, Nat.reduceMul, Nat.reduceMod, evW, fn_eq, evR, Nat.reduceAdd, Nat.reduceLT, Nat.reduceLeDiff, reduceIte, Nat.reduceEqDiff, reduceCtorEq, argEnv, eq_self, if_true, if_false]
      all_goals exact ⟨_, rfl⟩
theorem open_3 {a : AV} (h : ArgTy true [.int .i64, .int .i64, .int .i64] a) : ∃ n m k : Int, a = .agg [.int .i64 n, .int .i64 m, .int .i64 k] := by
  obtain ⟨bs, rfl, h⟩ := h
  simp only [HasL.eq_2, HasL.eq_1, Has] at h
  obtain ⟨_, _, rfl, ⟨n, rfl, _⟩, _, _, rfl, ⟨m, rfl, _⟩, _, _, rfl, ⟨k, rfl, _⟩, rfl⟩ := h
  exact ⟨n, m, k, rfl⟩
theorem open_S {a : AV} (h : ArgTy false [.str] a) : ∃ s : ByteArray, a = .str s := by
  have h : HasL [.str] [a] := h
  simp only [HasL.eq_2, HasL.eq_1, Has] at h
  obtain ⟨x, xs, e, ⟨s, rfl, _⟩, rfl⟩ := h
  simp only [List.cons.injEq, and_true] at e
  exact ⟨s, e⟩
end Go.Proofs.YtbchmbddcdionaaGreat.Code
namespace Go.Proofs.YtbchmbddcdionaaGreat.Pure
open Go.Proofs.YtbchmbddcdionaaGreat.Ev Go.Proofs.YtbchmbddcdionaaGreat.Code
theorem LogicInserts (a0 : AV) (t0 : ArgTy true [.str, .int .i64, .sl [.str, .int .i64, .int .i64, .int .i64, .sl [.str, .int .i64, .int .i64], .int .i64, .bool, .bool], .sl [.str, .int .i64, .int .i64, .str], .str, .int .i64, .sl [.str, .int .i64, .int .i64, .int .i64, .sl [.str, .int .i64, .int .i64], .int .i64, .bool, .bool], .sl [.str, .int .i64, .int .i64, .str], .int .i64, .int .i64, .str, .sl [.int .i64, .str], .sl [.int .i64, .str]] a0) (a1 : AV) (t1 : ArgTy true [.int .i64, .int .i64, .int .i64] a1) (a2 : AV) (t2 : ArgTy false [.str] a2) : ∃ H', evC cprog 3 [a0, a1, a2] [] = some (.bool true, H') := by
  obtain ⟨x, rfl, hx⟩ := open_Two t0
  obtain ⟨p, t, i, rfl⟩ := open_3 t1
  obtain ⟨d, rfl⟩ := open_S t2
  exact f3 x hx p t i d
end Go.Proofs.YtbchmbddcdionaaGreat.Pure

