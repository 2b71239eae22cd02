/- Texts of ours, joined into one file; each begins with its own remark. -/
import Derived.Test.YtbdpceigmnpoaaaGreatDoorU1
import Derived.Test.YtbdpceigmnpoaaaGreatDoorCodeB
import Derived.Test.YtbdpceigmnpoaaaGreatDoorRepU
import Derived.Test.YtbdpceigmnpoaaaGreatDoorStrU
import Derived.KernelRfl
/- plain: fits, keys and Replace, of the program and of the document. -/
set_option linter.unusedSimpArgs false
set_option linter.unusedVariables false
namespace Go.Proofs.YtbdpceigmnpoaaaGreatDoor.Code
open Go.Proofs.YtbdpceigmnpoaaaGreatDoor.Ev

def tyOut (ts : List Ty) (i : Int) : Bool := decide (i < 0) || decide ((ts.length : Int) ≤ i)
noncomputable def errB (b : Base) (l : List Int) : Int := if validB b = true then (if l.any (tyOut b.types) = true then 2 else 0) else 100
theorem Base.Ok.lens {b : Base} (hb : b.Ok) (h : validB b = true) : b.types.length ≤ 8 ∧ b.indexes.length ≤ 3 := by
  simp only [validB, areTys, Bool.and_eq_true, decide_eq_true_eq] at h
  omega
theorem f128 (b : Base) (t : Int) (H : Heap) : cal (evC cprog) false 128 [eBase b, .int .i64 t] H = some (.bool (!tyOut b.types t), H) := by
  rw [cal_of at128]
  have hlen := (sTys [] b.types).len
  simp only [List.length_map] at hlen
  by_cases h0 : 0 ≤ t <;> by_cases h1 : t < (b.types.length : Int)
  all_goals
    have h2 : tyOut b.types t = !(decide (0 ≤ t) && decide (t < (b.types.length : Int))) := by
      unfold tyOut
      by_cases g0 : t < 0 <;> by_cases g1 : (b.types.length : Int) ≤ t <;> simp only [g0, g1, h0, h1, decide_true, decide_false, Bool.or_true, Bool.true_or, Bool.or_false, Bool.and_true, Bool.and_false, Bool.not_true, Bool.not_false, Bool.and_self] <;> omega
    rw [h2]
    simp only [h0, h1, decide_true, decide_false, Bool.and_self, Bool.and_true, Bool.and_false, Bool.not_not]
  · simp only [c128, eBase, hlen, h0, h1, evX, Int.reduceEq, Int.reduceLT, Int.reduceLE, Nat.reduceMul, Nat.reduceMod, evW, fn_eq, evR, Nat.reduceAdd, Nat.reduceLT, Nat.reduceLeDiff, reduceIte, Nat.reduceEqDiff, reduceCtorEq, argEnv, eq_self, if_true, if_false]
  · simp only [c128, eBase, hlen, h0, h1, evX, Int.reduceEq, Int.reduceLT, Int.reduceLE, Nat.reduceMul, Nat.reduceMod, evW, fn_eq, evR, Nat.reduceAdd, Nat.reduceLT, Nat.reduceLeDiff, reduceIte, Nat.reduceEqDiff, reduceCtorEq, argEnv, eq_self, if_true, if_false]
  · simp only [c128, eBase, hlen, h0, h1, evX, Int.reduceEq, Int.reduceLT, Int.reduceLE, Nat.reduceMul, Nat.reduceMod, evW, fn_eq, evR, Nat.reduceAdd, Nat.reduceLT, Nat.reduceLeDiff, reduceIte, Nat.reduceEqDiff, reduceCtorEq, argEnv, eq_self, if_true, if_false]
  · simp only [c128, eBase, hlen, h0, h1, evX, Int.reduceEq, Int.reduceLT, Int.reduceLE, Nat.reduceMul, Nat.reduceMod, evW, fn_eq, evR, Nat.reduceAdd, Nat.reduceLT, Nat.reduceLeDiff, reduceIte, Nat.reduceEqDiff, reduceCtorEq, argEnv, eq_self, if_true, if_false]
theorem f91 (b : Base) (hb : b.Ok) (a : AV) (l : List Int) (hl : l.length < 9223372036854775807) (H : Heap) (ha : SlAt H 1 a (l.map rI)) : cal (evC cprog) false 91 [eBase b, a] H = some (.int .i64 (errB b l), H) := by
  rw [cal_of at91]
  have h1 := f43 b hb
  have h2 := f128 b
  simp only [eBase] at h1 h2
  have hlen' := ha.len
  simp only [List.length_map] at hlen'
  cases hv : validB b with
  | false =>
    simp only [c91, eBase, h1, hv, evX, Int.reduceEq, Int.reduceLT, Int.reduceLE, Nat.reduceMul, Nat.reduceMod, evW, fn_eq, evR, Nat.reduceAdd, Nat.reduceLT, Nat.reduceLeDiff, reduceIte, Nat.reduceEqDiff, reduceCtorEq, argEnv, eq_self, if_true, if_false]
    simp [errB, hv]
  | true =>
    simp only [c91, eBase, h1, hv, evX, Int.reduceEq, Int.reduceLT, Int.reduceLE, Nat.reduceMul, Nat.reduceMod, evW, fn_eq, evR, Nat.reduceAdd, Nat.reduceLT, Nat.reduceLeDiff, reduceIte, Nat.reduceEqDiff, reduceCtorEq, argEnv, eq_self, if_true, if_false]
    generalize hz : itLim _ _ = z
    have key : ∀ (H' : Heap) (b1 : Nat), Sits H' b1 (bBase b) → SlAt H' 1 a (l.map rI) → ∀ (st : St) (G : Heap), keepEnv st.1 [1, 2, 5] = [(1, a), (2, .ptr b1 0 4 0 0), (5, .int .i64 0)] → st.2 = H' ++ ([] ++ G) → ∀ z, itLim (evCode (evC cprog) itLim c91_l0) st = z →
        (l.all (fun i => !tyOut b.types i) = true ∧ Lv H' [] (fun c T => c = .exit 0) z) ∨ (l.all (fun i => !tyOut b.types i) = false ∧ Lv H' [] (fun c T => c = .ret ∧ get T 4 = some (.int .i64 2)) z) := by
      intro H' b1 hs ha st G hE hH z hz
      simp only [bBase, Sits] at hs
      exact all_rule l _ [1, 2, 5] (fun i => [(1, a), (2, .ptr b1 0 4 0 0), (5, .int .i64 (i : Int))]) H' [] (evCode (evC cprog) itLim c91_l0) _ _
        (fun i x hx E G hE => by
          have hlt : i < l.length := (List.getElem?_eq_some_iff.1 hx).1
          have hi : (i : Int) < (l.length : Int) := by omega
          obtain ⟨p, g1, g2⟩ := slI ha hx
          have hw := wrapS hlt hl
          cases ho : tyOut b.types x with
          | true =>
            simp only [c91_l0, hE, hi, hlen', hs, g1, g2, h2, ho, evX, Int.reduceEq, Int.reduceLT, Int.reduceLE, Nat.reduceMul, Nat.reduceMod, evW, fn_eq, evR, Nat.reduceAdd, Nat.reduceLT, Nat.reduceLeDiff, reduceIte, Nat.reduceEqDiff, reduceCtorEq, argEnv, eq_self, if_true, if_false]
            exact Sc.ret rfl ⟨rfl, rfl⟩
          | false =>
            simp only [c91_l0, hE, hi, hlen', hs, g1, g2, h2, ho, hw, evX, Int.reduceEq, Int.reduceLT, Int.reduceLE, Nat.reduceMul, Nat.reduceMod, evW, fn_eq, evR, Nat.reduceAdd, Nat.reduceLT, Nat.reduceLeDiff, reduceIte, Nat.reduceEqDiff, reduceCtorEq, argEnv, eq_self, if_true, if_false]
            exact Sc.next rfl (by rfl))
        (fun E G hE => by
          simp only [c91_l0, hE, hlen', Int.lt_irrefl, evX, Int.reduceEq, Int.reduceLT, Int.reduceLE, Nat.reduceMul, Nat.reduceMod, evW, fn_eq, evR, Nat.reduceAdd, Nat.reduceLT, Nat.reduceLeDiff, reduceIte, Nat.reduceEqDiff, reduceCtorEq, argEnv, eq_self, if_true, if_false]
          exact .exit (K := []) rfl) st G hE hH z hz
    rcases key (H ++ [bBase b]) H.length (.mk (by simp)) (ha.app _) _ [] (by rfl) (by simp [bBase]) z hz with ⟨ha, c, T, G, rfl, _, rfl⟩ | ⟨ha, c, T, G, rfl, _, rfl, hT⟩
    · simp only [evX, Int.reduceEq, Int.reduceLT, Int.reduceLE, Nat.reduceMul, Nat.reduceMod, evW, fn_eq, evR, Nat.reduceAdd, Nat.reduceLT, Nat.reduceLeDiff, reduceIte, Nat.reduceEqDiff, reduceCtorEq, argEnv, eq_self, if_true, if_false]
      have : l.any (tyOut b.types) = false := by rw [List.any_eq_false]; intro x hx; have := List.all_eq_true.1 ha x hx; simpa using this
      simp [errB, hv, this]
    · simp only [hT, evX, Int.reduceEq, Int.reduceLT, Int.reduceLE, Nat.reduceMul, Nat.reduceMod, evW, fn_eq, evR, Nat.reduceAdd, Nat.reduceLT, Nat.reduceLeDiff, reduceIte, Nat.reduceEqDiff, reduceCtorEq, argEnv, eq_self, if_true, if_false]
      have : l.any (tyOut b.types) = true := by
        obtain ⟨x, hx, h⟩ := List.all_eq_false.1 ha
        rw [List.any_eq_true]; exact ⟨x, hx, by simpa using h⟩
      simp [errB, hv, this]
theorem errB_ok {b : Base} (hv : validB b = true) {k : Nat} (hk : k < b.types.length) : errB b [(k : Int)] = 0 := by
  have h : tyOut b.types (k : Int) = false := by simp [tyOut]; omega
  unfold errB
  rw [if_pos hv, if_neg (by simp [h])]
end Go.Proofs.YtbdpceigmnpoaaaGreatDoor.Code

/- plain: Replace, of the program and of the document. -/
set_option linter.unusedSimpArgs false
set_option linter.unusedVariables false
namespace Go.Proofs.YtbdpceigmnpoaaaGreatDoor.Code
open Go.Proofs.YtbdpceigmnpoaaaGreatDoor.Ev

end Go.Proofs.YtbdpceigmnpoaaaGreatDoor.Code

/- (stands where another seat has texts of its own) -/
set_option linter.unusedSimpArgs false
set_option linter.unusedVariables false

/- logic: paths, of the program and of the document. -/
set_option linter.unusedSimpArgs false
set_option linter.unusedVariables false
namespace Go.Proofs.YtbdpceigmnpoaaaGreatDoor.Code
open Go.Proofs.YtbdpceigmnpoaaaGreatDoor.Ev

/-- the ends of a list, changed with each other -/
def swp (l : List Int) (t : Nat) : List Int := (List.range l.length).map fun k => if k < t ∨ l.length ≤ k + t then l.getD (l.length - 1 - k) 0 else l.getD k 0
theorem swp_len (l : List Int) (t : Nat) : (swp l t).length = l.length := by simp [swp]
theorem swp_at (l : List Int) (t k : Nat) (hk : k < l.length) : (swp l t)[k]? = some (if k < t ∨ l.length ≤ k + t then l.getD (l.length - 1 - k) 0 else l.getD k 0) := by simp [swp, hk]
theorem swp_zero (l : List Int) : swp l 0 = l := by
  apply List.ext_getElem? 
  intro k
  by_cases hk : k < l.length
  · rw [swp_at l 0 k hk, if_neg (by omega), List.getD_eq_getElem?_getD, List.getElem?_eq_getElem hk]; rfl
  · rw [List.getElem?_eq_none (by rw [swp_len]; omega), List.getElem?_eq_none (by omega)]
theorem swp_all (l : List Int) (t : Nat) (h : l.length ≤ 2 * t + 1) : swp l t = l.reverse := by
  apply List.ext_getElem?
  intro k
  by_cases hk : k < l.length
  · rw [swp_at l t k hk, List.getElem?_reverse hk]
    have e : (if k < t ∨ l.length ≤ k + t then l.getD (l.length - 1 - k) 0 else l.getD k 0) = l.getD (l.length - 1 - k) 0 := by
      split
      · rfl
      · congr 1; omega
    rw [e, List.getD_eq_getElem?_getD, List.getElem?_eq_getElem (by omega)]; rfl
  · rw [List.getElem?_eq_none (by rw [swp_len]; omega), List.getElem?_eq_none (by simp; omega)]
theorem swp_step (l : List Int) (t : Nat) (h : 2 * t + 1 < l.length) : ((swp l t).set t (l.getD (l.length - 1 - t) 0)).set (l.length - 1 - t) (l.getD t 0) = swp l (t + 1) := by
  apply List.ext_getElem?
  intro k
  by_cases hk : k < l.length
  · rw [swp_at l (t + 1) k hk, List.getElem?_set, List.getElem?_set]
    simp only [List.length_set, swp_len]
    by_cases h1 : l.length - 1 - t = k
    · rw [if_pos h1, if_pos (by omega), if_pos (by omega)]
      congr 2; omega
    · rw [if_neg h1]
      by_cases h2 : t = k
      · rw [if_pos h2, if_pos (by omega), if_pos (by omega), h2]
      · rw [if_neg h2, swp_at l t k hk]
        congr 1
        by_cases h3 : k < t ∨ l.length ≤ k + t
        · rw [if_pos h3, if_pos (by omega)]
        · rw [if_neg h3, if_neg (by omega)]
  · rw [List.getElem?_eq_none (by simp [swp_len]; omega), List.getElem?_eq_none (by rw [swp_len]; omega)]
theorem swp_row {l : List Int} {t k : Nat} (h1 : t ≤ k) (h2 : k + t < l.length) : ((swp l t).map rI)[k]? = some [.int .i64 (l.getD k 0)] := by
  rw [List.getElem?_map, swp_at l t k (by omega), if_neg (by omega)]; rfl
theorem f138 (H : Heap) (b v : Nat) (l : List Int) (hb : H[b]? = some ⟨v, true, 3, 1, l.map rI⟩) (h0 : 0 < l.length) (hl : l.length ≤ 1000) : cal (evC cprog) false 138 [.ref b v 1 0 l.length] H = some (.tup [], H.set b ⟨v, true, 3, 1, l.reverse.map rI⟩) := by
  rw [cal_of at138]
  have hbl := (List.getElem?_eq_some_iff.1 hb).1
  have hw0 : IntKind.i64.wrap ((l.length : Int) - 1) = ((l.length - 1 : Nat) : Int) := by rw [wrap_i64 (by omega) (by omega)]; omega
  simp only [c138, hw0, evX, Int.reduceEq, Int.reduceLT, Int.reduceLE, Nat.reduceMul, Nat.reduceMod, evW, fn_eq, evR, Nat.reduceAdd, Nat.reduceLT, Nat.reduceLeDiff, reduceIte, Nat.reduceEqDiff, reduceCtorEq, argEnv, eq_self, if_true, if_false]
  generalize hz : itLim _ _ = z
  have L := loop_rule (σ := Nat) (m := [0, 2, 3]) (env := fun t => [(0, .ref b v 1 0 l.length), (2, .int .i64 (t : Int)), (3, .int .i64 ((l.length - 1 - t : Nat) : Int))]) (hp := fun t => H.set b ⟨v, true, 3, 1, (swp l t).map rI⟩)
    (P := fun _ r => ∃ T, r = (.exit 0, T, H.set b ⟨v, true, 3, 1, l.reverse.map rI⟩))
    (mu := fun t => l.length - t) (I := fun t => 2 * t ≤ l.length) (evCode (evC cprog) itLim c138_l0) ?_ 0 _ (by omega) (by rfl) (by
      rw [swp_zero]
      exact List.ext_getElem? fun j => by
        by_cases e : b = j
        · subst e; rw [List.getElem?_set_self hbl, hb]
        · rw [List.getElem?_set_ne e]) z hz
  · obtain ⟨_, rfl, T, rfl⟩ := L
    simp only [evX, Int.reduceEq, Int.reduceLT, Int.reduceLE, Nat.reduceMul, Nat.reduceMod, evW, fn_eq, evR, Nat.reduceAdd, Nat.reduceLT, Nat.reduceLeDiff, reduceIte, Nat.reduceEqDiff, reduceCtorEq, argEnv, eq_self, if_true, if_false]
    show some (AV.tup [], gc H (AV.tup []) (H.set b ⟨v, true, 3, 1, l.reverse.map rI⟩)) = _
    rcases gc_or H (.tup []) (H.set b ⟨v, true, 3, 1, l.reverse.map rI⟩) with h | ⟨h, ht⟩
    · rw [h]
    · rw [List.take_of_length_le (by simp)] at ht
      rw [h, ht]
  · intro t ht E hE
    by_cases hlt : 2 * t + 1 < l.length
    · have hii : (t : Int) < ((l.length - 1 - t : Nat) : Int) := by omega
      have r1 := swp_row (l := l) (t := t) (k := t) (Nat.le_refl _) (by omega)
      have r2 := swp_row (l := l) (t := t) (k := l.length - 1 - t) (by omega) (by omega)
      have r3 : (((swp l t).map rI).set t [.int .i64 (l.getD (l.length - 1 - t) 0)])[l.length - 1 - t]? = some [.int .i64 (l.getD (l.length - 1 - t) 0)] := by
        rw [List.getElem?_set_ne (by omega)]; exact r2
      have hst : (((swp l t).map rI).set t [.int .i64 (l.getD (l.length - 1 - t) 0)]).set (l.length - 1 - t) [.int .i64 (l.getD t 0)] = (swp l (t + 1)).map rI := by
        rw [← swp_step l t hlt, List.map_set, List.map_set]; rfl
      have k1 : t < l.length := by omega
      have k2 : l.length - 1 - t < l.length := by omega
      have hw1 : IntKind.i64.wrap ((t : Int) + 1) = ((t + 1 : Nat) : Int) := by rw [wrap_i64 (by omega) (by omega)]; omega
      have hw2 : IntKind.i64.wrap (((l.length - 1 - t : Nat) : Int) - 1) = ((l.length - 1 - (t + 1) : Nat) : Int) := by rw [wrap_i64 (by omega) (by omega)]; omega
      have hat : ∀ B, (H.set b B)[b]? = some B := fun B => List.getElem?_set_self hbl
      generalize l.length - 1 - t = j at *
      simp only [c138_l0, hE, hii, hat, r1, r2, r3, hst, List.set_set, k1, k2, hw1, hw2, asNat_cast, evX, Int.reduceEq, Int.reduceLT, Int.reduceLE, Nat.reduceMul, Nat.reduceMod, evW, fn_eq, evR, Nat.reduceAdd, Nat.reduceLT, Nat.reduceLeDiff, reduceIte, Nat.reduceEqDiff, reduceCtorEq, argEnv, eq_self, if_true, if_false]
      exact q_next (t + 1) (by rfl) (by rfl) (by omega) (by omega) fun r h => h
    · have hii : ¬ (t : Int) < ((l.length - 1 - t : Nat) : Int) := by omega
      rw [swp_all l t (by omega)]
      simp only [c138_l0, hE, hii, evX, Int.reduceEq, Int.reduceLT, Int.reduceLE, Nat.reduceMul, Nat.reduceMod, evW, fn_eq, evR, Nat.reduceAdd, Nat.reduceLT, Nat.reduceLeDiff, reduceIte, Nat.reduceEqDiff, reduceCtorEq, argEnv, eq_self, if_true, if_false]
      exact q_exit ⟨_, rfl⟩
end Go.Proofs.YtbdpceigmnpoaaaGreatDoor.Code

/- logic: paths, of the program and of the document: the walks up. -/
set_option linter.unusedSimpArgs false
set_option linter.unusedVariables false
namespace Go.Proofs.YtbdpceigmnpoaaaGreatDoor.Code
open Go.Proofs.YtbdpceigmnpoaaaGreatDoor.Ev

/-- a walk up: what is ahead, and what was walked -/
structure Walks (b : Base) (f : List Item) (i : Nat) (c : Int) (acc : List Int) : Prop where
  lo : -1 ≤ c
  hi : c < (f.length : Int)
  eq : pth b.types f i = pthI b.types f c ++ acc
  len : (acc.length : Int) + c ≤ (f.length : Int)
theorem Walks.step {b : Base} {f : List Item} {i c : Nat} {acc : List Int} (w : Walks b f i (c : Int) acc) : Walks b f i (par b.types f c) ((c : Int) :: acc) := by
  have h1 := w.hi
  have hp := par_lt b.types f c
  refine ⟨hp.1, by omega, ?_, by have := w.len; simp; omega⟩
  rw [w.eq, pthI_nat, pth_eq b.types f (by omega), List.append_assoc]; rfl
theorem Walks.last {b : Base} {f : List Item} {i : Nat} {c : Int} {acc : List Int} (w : Walks b f i c acc) (h : c < 0) : acc = pth b.types f i := by
  rw [w.eq, pthI_neg _ _ h]; rfl
theorem out_src_more {n ty : Nat} {X : Heap} {rv : AV} {rows : List (List AV)} (h : Out n 1 ty X rv rows) (H : Heap) (hn : n = H.length) (Y : Heap) : srcRows (H ++ (X ++ Y)) rv = some rows := by
  subst hn
  rcases h with ⟨rfl, rfl | rfl⟩ | ⟨h1, j, v, rfl, h3⟩
  · rfl
  · rfl
  · have hl := (List.getElem?_eq_some_iff.1 h3).1
    cases hr : rows.length with
    | zero => exact absurd (List.eq_nil_of_length_eq_zero hr) h1
    | succ m =>
      have hc : curBlk (H ++ (X ++ Y)) (H.length + j) v 1 = some ⟨v, true, ty, 1, rows⟩ := by simp [curBlk, at_app, List.getElem?_append_left hl, h3]
      simp only [srcRows, rowsOf, hc, Option.map_some, List.drop_zero]
      rw [List.take_of_length_le (by omega)]
theorem rI_rows (l : List Int) : ∀ r ∈ l.map rI, r.length = 1 := fun r hr => by obtain ⟨y, _, rfl⟩ := List.mem_map.1 hr; rfl
theorem f72 (b : Base) (f : List Item) (hr : Right b f) (i : Nat) (hi : i < f.length) (H : Heap) : cal (evC cprog) true 72 [eBase b, eItems f, .int .i64 (i : Int)] H = some (eIs (pth b.types f i), H) := by
  rw [cal_of at72]
  have hfl := hr.len
  obtain ⟨K, hK⟩ : ∃ K : Heap, K = H ++ [bBase b] := ⟨_, rfl⟩
  have kl : K.length = H.length + 1 := by rw [hK]; simp
  have kt : ∀ Z, (K ++ Z).take H.length = H := fun Z => by rw [hK]; simp
  have kb : ∀ Z, (K ++ Z)[H.length]? = some (bBase b) := fun Z => by rw [hK]; simp
  have L := fun (st : St) (hE : keepEnv st.1 [1, 2, 3, 7] = [(1, eItems f), (2, .int .i64 (i : Int)), (3, .ptr H.length 0 4 0 0), (7, .nils)]) (hH : st.2 = K) (z : Option (CX × St)) (hz : itLim (evCode (evC cprog) itLim c72_l0) st = z) =>
    loop_rule (σ := Int × List Int × Heap × AV) (m := [1, 2, 3, 7]) (env := fun s => [(1, eItems f), (2, .int .i64 s.1), (3, .ptr H.length 0 4 0 0), (7, s.2.2.2)]) (hp := fun s => K ++ s.2.2.1)
    (P := fun _ r => ∃ T X rv, r = (.exit 0, T, K ++ X) ∧ keepEnv T [7] = [(7, rv)] ∧ Out K.length 1 3 X rv ((pth b.types f i).map rI))
    (mu := fun s => (s.1 + 1).toNat) (I := fun s => Walks b f i s.1 s.2.1 ∧ Out K.length 1 3 s.2.2.1 s.2.2.2 (s.2.1.map rI)) (evCode (evC cprog) itLim c72_l0) (by
      intro ⟨c, acc, X, rv⟩ ⟨w, hO⟩ E hE
      simp only at w hO hE ⊢
      have h1 := w.lo
      have h2 := w.hi
      have h3 := w.len
      by_cases hc : 0 ≤ c
      · obtain ⟨c, rfl⟩ : ∃ k : Nat, c = (k : Int) := ⟨c.toNat, by omega⟩
        have h82 := fun H => f89r b f hr c (by omega) H
        have w2 := w.step
        have hnew : Out K.length 1 3 (X ++ [⟨0, true, 3, 1, [[.int .i64 (c : Int)]]⟩]) (.ref (K.length + X.length) 0 1 0 1) [[.int .i64 (c : Int)]] := .inr ⟨by simp, X.length, 0, rfl, by simp⟩
        obtain ⟨rv1, X1, a1, t1, O1⟩ := hnew.app K rfl 8 rv (acc.map rI) (out_src_more hO K rfl _) (rI_rows acc) (by simp [reach]; omega)
        have hra : [[AV.int .i64 (c : Int)]] ++ acc.map rI = ((c : Int) :: acc).map rI := by simp [rI]
        rw [hra] at O1
        simp only [bBase] at kb
        simp only [eBase] at h82
        have hpl := par_lt b.types f c
        simp only [c72_l0, hE, hc, kb, h82, a1, t1, evX, Int.reduceEq, Int.reduceLT, Int.reduceLE, Nat.reduceMul, Nat.reduceMod, evW, fn_eq, evR, Nat.reduceAdd, Nat.reduceLT, Nat.reduceLeDiff, reduceIte, Nat.reduceEqDiff, reduceCtorEq, argEnv, eq_self, if_true, if_false]
        exact q_next (par b.types f c, (c : Int) :: acc, X1, rv1) (by rfl) rfl ⟨w2, O1⟩ (by simp only; omega) fun r h => h
      · simp only [c72_l0, hE, hc, evX, Int.reduceEq, Int.reduceLT, Int.reduceLE, Nat.reduceMul, Nat.reduceMod, evW, fn_eq, evR, Nat.reduceAdd, Nat.reduceLT, Nat.reduceLeDiff, reduceIte, Nat.reduceEqDiff, reduceCtorEq, argEnv, eq_self, if_true, if_false]
        rw [w.last (by omega)] at hO
        exact q_exit ⟨_, X, rv, rfl, by rfl, hO⟩) ((i : Int), [], [], .nils) st ⟨⟨by omega, by omega, by rw [pthI_nat, List.append_nil], by simp; omega⟩, .nils ..⟩ hE (by simpa using hH) z hz
  simp only [c72, eBase, evX, Int.reduceEq, Int.reduceLT, Int.reduceLE, Nat.reduceMul, Nat.reduceMod, evW, fn_eq, evR, Nat.reduceAdd, Nat.reduceLT, Nat.reduceLeDiff, reduceIte, Nat.reduceEqDiff, reduceCtorEq, argEnv, eq_self, if_true, if_false]
  generalize hz : itLim _ _ = z
  obtain ⟨_, rfl, T, X, rv, rfl, hT, hO⟩ := L _ (by rfl) (by rw [hK]; rfl) z hz
  clear hz L
  obtain ⟨ids, g1, g2, g3⟩ := fz_out' hO K rfl (plain_ints _)
  have ht := kt X
  have hsc := out_tup hO
  generalize K ++ X = Z at *
  simp only [hT, hsc, evX, Int.reduceEq, Int.reduceLT, Int.reduceLE, Nat.reduceMul, Nat.reduceMod, evW, fn_eq, evR, Nat.reduceAdd, Nat.reduceLT, Nat.reduceLeDiff, reduceIte, Nat.reduceEqDiff, reduceCtorEq, argEnv, eq_self, if_true, if_false]
  exact frz_one g1 g3 ht (fun k hk => by have := g2 k hk; omega)
end Go.Proofs.YtbdpceigmnpoaaaGreatDoor.Code

/- octet.Key, of the program and of the document: the keys of lists of texts. -/
set_option linter.unusedSimpArgs false
set_option linter.unusedVariables false
namespace Go.Proofs.YtbdpceigmnpoaaaGreatDoor.Code
open Go.Proofs.YtbdpceigmnpoaaaGreatDoor.Ev

def rS (s : ByteArray) : List AV := [.str s]
def rU (b : UInt8) : List AV := [.int .u8 (b.toNat : Int)]
def eU (l : List UInt8) : AV := .lst (l.map rU)
def keyG (_ : Nat) (s : ByteArray) : List UInt8 := esc s.data.toList ++ [0, 1]
def keyU (l : List ByteArray) : List UInt8 := gath keyG 0 l
theorem data_len (s : ByteArray) : s.data.toList.length = s.size := Array.length_toList
theorem keyG_len (l : List ByteArray) (h : ∀ s ∈ l, s.size ≤ 1000) : ∀ k, (gath keyG k l).length ≤ 2002 * l.length := by
  induction l with
  | nil => intro k; simp [gath]
  | cons s l ih =>
    intro k
    have h1 := h s (by simp)
    have h2 := ih (fun t ht => h t (by simp [ht])) (k + 1)
    have h3 := esc_len s.data.toList
    rw [data_len] at h3
    simp only [gath, keyG, List.length_append, List.length_cons, List.length_nil]
    omega
theorem plain_U (q : List UInt8) : Plain (q.map rU) := by
  intro r hr a ha
  obtain ⟨n, _, rfl⟩ := List.mem_map.1 hr
  obtain rfl : a = .int .u8 (n.toNat : Int) := by simpa [rU] using ha
  exact ⟨rfl, fun _ _ => rfl⟩
theorem rU_rows (q : List UInt8) : ∀ r ∈ q.map rU, r.length = 1 := fun r hr => by obtain ⟨y, _, rfl⟩ := List.mem_map.1 hr; rfl
theorem byteRows_U (s : ByteArray) : byteRows s = s.data.toList.map rU := rfl
theorem fn_uRep {call it} {n : Nat} {res : List CRes} {p : List AV → Heap → Option (List AV × Heap)} (args : List AV) (H : Heap) : evFn call it ⟨n, res, .user p, false, false⟩ args H = bodyK res ((p args H).map fun r => (CX.ret, (argEnv 0 r.1, r.2))) := by
  rw [fn_eq]
  simp only [evCode, user_args]
theorem f143 (s : ByteArray) (hs : s.size ≤ 1000000) (H : Heap) : cal (evC cprog) false 143 [.str s, .str ⟨#[0]⟩, .str ⟨#[0, 255]⟩] H = some (.str ⟨(esc s.data.toList).toArray⟩, H) := by
  rw [cal_of at143, show c143 = ⟨0, [.t 0], .user pRepl, false, false⟩ from rfl, fn_uRep]
  have h : pRepl [.str s, .str ⟨#[0]⟩, .str ⟨#[0, 255]⟩] H = some ([.str ⟨(esc s.data.toList).toArray⟩], H) := by
    simp only [pRepl]
    rw [if_pos ⟨trivial, trivial, hs⟩]
  rw [h]
  simp only [evX, Int.reduceEq, Int.reduceLT, Int.reduceLE, Nat.reduceMul, Nat.reduceMod, evW, fn_eq, evR, Nat.reduceAdd, Nat.reduceLT, Nat.reduceLeDiff, reduceIte, Nat.reduceEqDiff, reduceCtorEq, argEnv, eq_self, if_true, if_false]
theorem slS {H : Heap} {a : AV} {l : List ByteArray} (h : SlAt H 1 a (l.map rS)) {i : Nat} {s : ByteArray} (hi : l[i]? = some s) : ∃ p, iaddrK 1 (some a) (some (.int .i64 (i : Int))) = some p ∧ ∀ X, loadK false 1 (H ++ X) (some p) = some (.str s) := by
  obtain ⟨_, p, h1, h2⟩ := h.get i (rS s) (by rw [List.getElem?_map, hi]; rfl)
  exact ⟨p, h1, fun X => h2.onex X⟩
theorem f112 (a : AV) (l : List ByteArray) (hl : l.length ≤ 1000) (hs : ∀ s ∈ l, s.size ≤ 1000) (H : Heap) (hsl : SlAt H 1 a (l.map rS)) : cal (evC cprog) true 112 [a] H = some (eU (keyU l), H) := by
  rw [cal_of at112]
  have hlen := hsl.len
  simp only [List.length_map] at hlen
  simp only [c112, hlen, evX, Int.reduceEq, Int.reduceLT, Int.reduceLE, Nat.reduceMul, Nat.reduceMod, evW, fn_eq, evR, Nat.reduceAdd, Nat.reduceLT, Nat.reduceLeDiff, reduceIte, Nat.reduceEqDiff, reduceCtorEq, argEnv, eq_self, if_true, if_false]
  generalize hz : itLim _ _ = z
  obtain ⟨T, X, rv, rfl, hT, hO⟩ := gath_rule l keyG rU [3, 6, 7, 8] (fun i rv => [(3, rv), (6, a), (7, .int .i64 (l.length : Int)), (8, .int .i64 (i : Int))]) H 1 5 (evCode (evC cprog) itLim c112_l0) 0 [3] (fun rv => [(3, rv)])
    (fun i s hx E X rv hE hO => by
      have hlt : i < l.length := (List.getElem?_eq_some_iff.1 hx).1
      have hi : (i : Int) < (l.length : Int) := by omega
      have hw := wrapS hlt (by omega)
      obtain ⟨p, hp, hq⟩ := slS hsl hx
      have hss := hs s (List.mem_of_getElem? hx)
      have h66 := fun K => f143 s (by omega) K
      have hb := keyG_len (l.take i) (fun t ht => hs t (List.mem_of_mem_take ht)) 0
      rw [List.length_take] at hb
      have he := esc_len s.data.toList
      rw [data_len] at he
      obtain ⟨rv1, X1, a1, a2, a3⟩ := hO.app H rfl 1 (.str ⟨(esc s.data.toList).toArray⟩) ((esc s.data.toList).map rU) (by simp [srcRows, byteRows_U]) (rU_rows _) (by simp only [List.length_map, reach]; omega)
      have a3' := a3.more [⟨0, true, 5, 1, [[.int .u8 0], [.int .u8 1]]⟩]
      obtain ⟨rv2, X2, b1, b2, b3⟩ := a3'.app H rfl 1 (.ref (H.length + X1.length) 0 1 0 2) [[.int .u8 0], [.int .u8 1]] (by simp [srcRows, rowsOf, curBlk, at_app]) (by simp) (by simp only [List.length_map, List.length_append, List.length_cons, List.length_nil, reach]; omega)
      simp only [c112_l0, hE, hi, hp, hq, h66, a1, a2, b1, b2, hw, evX, Int.reduceEq, Int.reduceLT, Int.reduceLE, Nat.reduceMul, Nat.reduceMod, evW, fn_eq, evR, Nat.reduceAdd, Nat.reduceLT, Nat.reduceLeDiff, reduceIte, Nat.reduceEqDiff, reduceCtorEq, argEnv, eq_self, if_true, if_false]
      exact ⟨_, _, _, rfl, by rfl, by simpa [keyG, rU] using b3⟩)
    (fun E X rv hE => by
      simp only [c112_l0, hE, Int.lt_irrefl, evX, Int.reduceEq, Int.reduceLT, Int.reduceLE, Nat.reduceMul, Nat.reduceMod, evW, fn_eq, evR, Nat.reduceAdd, Nat.reduceLT, Nat.reduceLeDiff, reduceIte, Nat.reduceEqDiff, reduceCtorEq, argEnv, eq_self, if_true, if_false]
      exact ⟨_, rfl, by rfl⟩) _ [] .nils (.nils ..) (by rfl) (by simp) z hz
  simp only [hT, out_tup hO, evX, Int.reduceEq, Int.reduceLT, Int.reduceLE, Nat.reduceMul, Nat.reduceMod, evW, fn_eq, evR, Nat.reduceAdd, Nat.reduceLT, Nat.reduceLeDiff, reduceIte, Nat.reduceEqDiff, reduceCtorEq, argEnv, eq_self, if_true, if_false]
  exact frz_out hO H [] (by simp) (plain_U _)
end Go.Proofs.YtbdpceigmnpoaaaGreatDoor.Code

/- ref01.Key: the document's keys of lists of texts. -/
set_option linter.unusedSimpArgs false
set_option linter.unusedVariables false
namespace Go.Proofs.YtbdpceigmnpoaaaGreatDoor.Code
open Go.Proofs.YtbdpceigmnpoaaaGreatDoor.Ev

def escG (_ : Nat) (b : UInt8) : List UInt8 := if b = 0 then [0, 255] else [b]
theorem esc_gath : ∀ (l : List UInt8) (k : Nat), gath escG k l = esc l
  | [], _ => rfl
  | b :: l, k => by
    rw [gath, esc_gath l (k + 1), esc, escG]
    split <;> simp_all
theorem esc_take (l : List UInt8) (i : Nat) : (gath escG 0 (l.take i)).length ≤ 2 * l.length := by
  rw [esc_gath]
  have := esc_len (l.take i)
  rw [List.length_take] at this
  omega
theorem l51_0 (a : AV) (l : List ByteArray) (i : Nat) (s : ByteArray) (hi : l[i]? = some s) (hs : s.size ≤ 1000) (pre : List UInt8) (hpre : pre.length ≤ 10000000) (H X : Heap) (hsl : SlAt H 1 a (l.map rS)) (rv : AV) (hO : Out H.length 1 5 X rv (pre.map rU)) (st : St)
    (hE : keepEnv st.1 [0, 3, 4, 5] = [(0, a), (3, rv), (4, .int .i64 (i : Int)), (5, .int .i64 0)]) (hH : st.2 = H ++ X) (z : Option (CX × St)) (hz : itLim (evCode (evC cprog) itLim c92_l0) st = z) :
    ∃ T X' rv', z = some (.exit 2, T, H ++ X') ∧ keepEnv T [0, 3, 4] = [(0, a), (3, rv'), (4, .int .i64 (i : Int))] ∧ Out H.length 1 5 X' rv' ((pre ++ esc s.data.toList).map rU) := by
  obtain ⟨p, hp, hq⟩ := slS hsl hi
  have hsz := data_len s
  have L := gath_pre s.data.toList escG rU (pre.map rU) [0, 3, 4, 5] (fun k rv => [(0, a), (3, rv), (4, .int .i64 (i : Int)), (5, .int .i64 (k : Int))]) H 1 5 (evCode (evC cprog) itLim c92_l0) 2 [0, 3, 4] (fun rv => [(0, a), (3, rv), (4, .int .i64 (i : Int))])
    (fun k b hb E X rv hE hO => by
      have hlt : k < s.data.toList.length := (List.getElem?_eq_some_iff.1 hb).1
      have hk : (k : Int) < (s.size : Int) := by omega
      have hw := wrapS (i := k) (n := 1000) (by omega) (by omega)
      have hix : idxK (some (.str s)) (some (.int .i64 (k : Int))) = some (.int .u8 (b.toNat : Int)) := by
        simp only [idxK, asNat_cast, byteK, hb]
      have hlen := esc_take s.data.toList k
      have hO1 := hO.more [⟨0, true, 5, 1, [[.int .u8 (b.toNat : Int)]]⟩]
      obtain ⟨rv1, X1, a1, a2, a3⟩ := hO1.app H rfl 1 (.ref (H.length + X.length) 0 1 0 1) [[.int .u8 (b.toNat : Int)]] (by simp [srcRows, rowsOf, curBlk, at_app]) (by simp) (by simp only [List.length_map, List.length_append, List.length_cons, List.length_nil, reach]; omega)
      by_cases h0 : b = 0
      · subst h0
        have hO2 := a3.more [⟨0, true, 5, 1, [[.int .u8 255]]⟩]
        obtain ⟨rv2, X2, b1, b2, b3⟩ := hO2.app H rfl 1 (.ref (H.length + X1.length) 0 1 0 1) [[.int .u8 255]] (by simp [srcRows, rowsOf, curBlk, at_app]) (by simp) (by simp only [List.length_map, List.length_append, List.length_cons, List.length_nil, reach]; omega)
        have hz0 : ((UInt8.toNat 0 : Nat) : Int) = 0 := rfl
        rw [hz0] at hix a1
        simp only [c92_l0, hE, hp, hq, hk, hix, a1, a2, b1, b2, hw, evX, Int.reduceEq, Int.reduceLT, Int.reduceLE, Nat.reduceMul, Nat.reduceMod, evW, fn_eq, evR, Nat.reduceAdd, Nat.reduceLT, Nat.reduceLeDiff, reduceIte, Nat.reduceEqDiff, reduceCtorEq, argEnv, eq_self, if_true, if_false]
        exact ⟨_, _, _, rfl, by rfl, by simpa [escG, rU] using b3⟩
      · have hne : ¬ (b.toNat : Int) = 0 := fun h => h0 (UInt8.toNat_inj.1 (by rw [show (0 : UInt8).toNat = 0 from rfl]; omega))
        simp only [c92_l0, hE, hp, hq, hk, hix, hne, a1, a2, hw, evX, Int.reduceEq, Int.reduceLT, Int.reduceLE, Nat.reduceMul, Nat.reduceMod, evW, fn_eq, evR, Nat.reduceAdd, Nat.reduceLT, Nat.reduceLeDiff, reduceIte, Nat.reduceEqDiff, reduceCtorEq, argEnv, eq_self, if_true, if_false]
        exact ⟨_, _, _, rfl, by rfl, by simpa [escG, h0, rU] using a3⟩)
    (fun E X rv hE => by
      rw [hsz] at hE
      simp only [c92_l0, hE, hp, hq, Int.lt_irrefl, evX, Int.reduceEq, Int.reduceLT, Int.reduceLE, Nat.reduceMul, Nat.reduceMod, evW, fn_eq, evR, Nat.reduceAdd, Nat.reduceLT, Nat.reduceLeDiff, reduceIte, Nat.reduceEqDiff, reduceCtorEq, argEnv, eq_self, if_true, if_false]
      exact ⟨_, rfl, by rfl⟩) st X rv hO (by simpa using hE) hH z hz
  obtain ⟨T, X', rv', h1, h2, h3⟩ := L
  refine ⟨T, X', rv', h1, h2, ?_⟩
  rw [esc_gath] at h3
  simpa using h3
theorem f92 (a : AV) (l : List ByteArray) (hl : l.length ≤ 1000) (hs : ∀ s ∈ l, s.size ≤ 1000) (H : Heap) (hsl : SlAt H 1 a (l.map rS)) : cal (evC cprog) true 92 [a] H = some (eU (keyU l), H) := by
  rw [cal_of at92]
  have hlen := hsl.len
  simp only [List.length_map] at hlen
  simp only [c92, evX, Int.reduceEq, Int.reduceLT, Int.reduceLE, Nat.reduceMul, Nat.reduceMod, evW, fn_eq, evR, Nat.reduceAdd, Nat.reduceLT, Nat.reduceLeDiff, reduceIte, Nat.reduceEqDiff, reduceCtorEq, argEnv, eq_self, if_true, if_false]
  generalize hz : itLim _ _ = z
  obtain ⟨T, X, rv, rfl, hT, hO⟩ := gath_rule l keyG rU [0, 3, 4] (fun i rv => [(0, a), (3, rv), (4, .int .i64 (i : Int))]) H 1 5 (evCode (evC cprog) itLim c92_l1) 0 [3] (fun rv => [(3, rv)])
    (fun i s hx E X rv hE hO => by
      have hlt : i < l.length := (List.getElem?_eq_some_iff.1 hx).1
      have hi : (i : Int) < (l.length : Int) := by omega
      have hw := wrapS hlt (by omega)
      have hss := hs s (List.mem_of_getElem? hx)
      have hb := keyG_len (l.take i) (fun t ht => hs t (List.mem_of_mem_take ht)) 0
      rw [List.length_take] at hb
      have he := esc_len s.data.toList
      rw [data_len] at he
      simp only [c92_l1, hE, hi, hlen, evX, Int.reduceEq, Int.reduceLT, Int.reduceLE, Nat.reduceMul, Nat.reduceMod, evW, fn_eq, evR, Nat.reduceAdd, Nat.reduceLT, Nat.reduceLeDiff, reduceIte, Nat.reduceEqDiff, reduceCtorEq, argEnv, eq_self, if_true, if_false]
      generalize hz : itLim _ _ = z
      obtain ⟨T, X1, rv1, rfl, hT, hO1⟩ := l51_0 a l i s hx (by omega) _ (by omega) H X hsl rv hO _ (by rfl) rfl z hz
      have hO2 := hO1.more [⟨0, true, 5, 1, [[.int .u8 0], [.int .u8 1]]⟩]
      obtain ⟨rv2, X2, b1, b2, b3⟩ := hO2.app H rfl 1 (.ref (H.length + X1.length) 0 1 0 2) [[.int .u8 0], [.int .u8 1]] (by simp [srcRows, rowsOf, curBlk, at_app]) (by simp) (by simp only [List.length_map, List.length_append, List.length_cons, List.length_nil, reach]; omega)
      simp only [hT, b1, b2, hw, evX, Int.reduceEq, Int.reduceLT, Int.reduceLE, Nat.reduceMul, Nat.reduceMod, evW, fn_eq, evR, Nat.reduceAdd, Nat.reduceLT, Nat.reduceLeDiff, reduceIte, Nat.reduceEqDiff, reduceCtorEq, argEnv, eq_self, if_true, if_false]
      exact ⟨_, _, _, rfl, by rfl, by simpa [keyG, rU] using b3⟩)
    (fun E X rv hE => by
      simp only [c92_l1, hE, hlen, Int.lt_irrefl, evX, Int.reduceEq, Int.reduceLT, Int.reduceLE, Nat.reduceMul, Nat.reduceMod, evW, fn_eq, evR, Nat.reduceAdd, Nat.reduceLT, Nat.reduceLeDiff, reduceIte, Nat.reduceEqDiff, reduceCtorEq, argEnv, eq_self, if_true, if_false]
      exact ⟨_, rfl, by rfl⟩) _ [] .nils (.nils ..) (by rfl) (by simp) z hz
  simp only [hT, out_tup hO, evX, Int.reduceEq, Int.reduceLT, Int.reduceLE, Nat.reduceMul, Nat.reduceMod, evW, fn_eq, evR, Nat.reduceAdd, Nat.reduceLT, Nat.reduceLeDiff, reduceIte, Nat.reduceEqDiff, reduceCtorEq, argEnv, eq_self, if_true, if_false]
  exact frz_out hO H [] (by simp) (plain_U _)
end Go.Proofs.YtbdpceigmnpoaaaGreatDoor.Code

/- plain: full keys, of the program and of the document. -/
set_option linter.unusedSimpArgs false
set_option linter.unusedVariables false
namespace Go.Proofs.YtbdpceigmnpoaaaGreatDoor.Code
open Go.Proofs.YtbdpceigmnpoaaaGreatDoor.Ev

/-- the key of an item -/
def keyA (b : Base) (f : List Item) (k : Int) : ByteArray := keyOf (tyOf b.types (typ f k)) (dat f k)
/-- the keys on the path of an item -/
def fkL (b : Base) (f : List Item) (i : Nat) : List ByteArray := (pth b.types f i).map (keyA b f)
theorem keyOf_size {t : Ty} (ht : tyOk t = true) (d : ByteArray) : (keyOf t d).size ≤ 40 := by
  by_cases h0 : t.key < 0
  · simp only [keyOf, h0, if_true]
    exact Nat.zero_le _
  · obtain ⟨m, k, g1, g2, g3, g4, g5, g6⟩ := key_in ht (by omega)
    have : ¬ (m : Int) < 0 := by omega
    simp only [keyOf, g1, this, if_false, Int.toNat_natCast, g2]
    rw [ByteArray.size_extract]
    omega
theorem fk_at {b : Base} {f : List Item} (hr : Right b f) {i : Nat} (hi : i < f.length) {a : Int} (ha : a ∈ pth b.types f i) :
    ∃ (j : Nat) (x : Item) (k : Nat) (t : Ty), a = (j : Int) ∧ j ≤ i ∧ f[j]? = some x ∧ x.type = (k : Int) ∧ b.types[k]? = some t ∧ tyOk t = true ∧ t.min ≤ x.data.size ∧ keyA b f a = keyOf t x.data := by
  have hb := pth_bound ha
  obtain ⟨j, rfl⟩ : ∃ j : Nat, a = (j : Int) := ⟨a.toNat, by omega⟩
  obtain ⟨x, k, t, h1, h2, h3, h4, h5, h6, _⟩ := hr.item (show j < f.length by omega)
  refine ⟨j, x, k, t, rfl, by omega, h1, h2, h4, h5, h6, ?_⟩
  have hd : dat f (j : Int) = x.data := by simp [dat, h1]
  rw [keyA, typ_at h1, h2, tyOf_at h4, hd]
theorem fk_len {b : Base} {f : List Item} (hr : Right b f) {i : Nat} (hi : i < f.length) : (pth b.types f i).length ≤ 5 := by
  obtain ⟨x, k, t, h1, h2, h3, _⟩ := hr.item hi
  rw [pth_len hr i i (Nat.le_refl _) hi, typ_at h1, h2, Int.toNat_natCast]
  exact (anc_len8 hr h3).1
theorem fk_size {b : Base} {f : List Item} (hr : Right b f) {i : Nat} (hi : i < f.length) : ∀ s ∈ fkL b f i, s.size ≤ 1000 := by
  intro s hs
  obtain ⟨a, ha, rfl⟩ := List.mem_map.1 hs
  obtain ⟨_, x, _, t, _, _, _, _, _, h5, _, h7⟩ := fk_at hr hi ha
  rw [h7]
  have := keyOf_size h5 x.data
  omega
def fkG (b : Base) (f : List Item) (_ : Nat) (a : Int) : List ByteArray := [keyA b f a]
theorem fkG_map (b : Base) (f : List Item) : ∀ (l : List Int) (k : Nat), gath (fkG b f) k l = l.map (keyA b f)
  | [], _ => rfl
  | a :: l, k => by rw [gath, fkG_map b f l (k + 1)]; rfl
theorem out_slS {n ty : Nat} {X : Heap} {rv : AV} {l : List ByteArray} (h : Out n 1 ty X rv (l.map rS)) (H0 : Heap) (hn : n = H0.length) : SlAt (H0 ++ X) 1 rv (l.map rS) := out_slat h H0 hn fun r hr => by obtain ⟨_, _, rfl⟩ := List.mem_map.1 hr; rfl
set_option maxHeartbeats 4000000 in
theorem f51 (b : Base) (f : List Item) (hr : Right b f) (i : Nat) (hi : i < f.length) (H : Heap) : cal (evC cprog) true 51 [eBase b, eItems f, .int .i64 (i : Int)] H = some (eU (keyU (fkL b f i)), H) := by
  rw [cal_of at51]
  have h38 := f72 b f hr i hi
  simp only [eBase] at h38
  have hpl := fk_len hr hi
  have hlen := (sIs [] (pth b.types f i)).len
  simp only [List.length_map] at hlen
  obtain ⟨K, hK⟩ : ∃ K : Heap, K = H ++ [bBase b] := ⟨_, rfl⟩
  have kl : K.length = H.length + 1 := by rw [hK]; simp
  have kt : ∀ Z, (K ++ Z).take H.length = H := fun Z => by rw [hK]; simp
  have kb : ∀ Z, (K ++ Z)[H.length]? = some (bBase b) := fun Z => by rw [hK]; simp
  simp only [bBase] at kb
  have L := fun (st : St) (hE : keepEnv st.1 [1, 3, 7, 8, 9] = [(1, eItems f), (3, .ptr H.length 0 4 0 0), (7, .nils), (8, eIs (pth b.types f i)), (9, .int .i64 0)]) (hH : st.2 = K) (z : Option (CX × St)) (hz : itLim (evCode (evC cprog) itLim c51_l0) st = z) =>
    gath_rule (pth b.types f i) (fkG b f) rS [1, 3, 7, 8, 9] (fun j rv => [(1, eItems f), (3, .ptr H.length 0 4 0 0), (7, rv), (8, eIs (pth b.types f i)), (9, .int .i64 (j : Int))]) K 1 9 (evCode (evC cprog) itLim c51_l0) 0 [7] (fun rv => [(7, rv)])
    (fun j a hx E X rv hE hO => by
      have hlt : j < (pth b.types f i).length := (List.getElem?_eq_some_iff.1 hx).1
      have hj : (j : Int) < ((pth b.types f i).length : Int) := by omega
      have hw := wrapS hlt (by omega)
      have hai := aI hx
      obtain ⟨n, x, k, t, rfl, hni, h1, h2, h3, h4, h5, h6⟩ := fk_at hr hi (List.mem_of_getElem? hx)
      have ha := aItem h1
      have h50 := f90 b x k t h2 h3 h4 h5
      simp only [eBase, rItem] at h50
      have hgl := gath_len (fkG b f) (fun i x => by simp [fkG]) ((pth b.types f i).take j) 0
      rw [List.length_take] at hgl
      obtain ⟨rv1, X1, a1, a2, a3, _⟩ := app_row hO K rfl 16 (rS (keyOf t x.data)) rfl (by simp only [List.length_map, reach]; omega)
      simp only [rS] at a1
      simp only [c51_l0, hE, hj, hlen, hai, rI, ha, rItem, kb, h50, a1, a2, hw, evX, Int.reduceEq, Int.reduceLT, Int.reduceLE, Nat.reduceMul, Nat.reduceMod, evW, fn_eq, evR, Nat.reduceAdd, Nat.reduceLT, Nat.reduceLeDiff, reduceIte, Nat.reduceEqDiff, reduceCtorEq, argEnv, eq_self, if_true, if_false]
      exact ⟨_, _, _, rfl, by rfl, by simpa [fkG, h6, rS] using a3⟩)
    (fun E X rv hE => by
      simp only [c51_l0, hE, hlen, Int.lt_irrefl, evX, Int.reduceEq, Int.reduceLT, Int.reduceLE, Nat.reduceMul, Nat.reduceMod, evW, fn_eq, evR, Nat.reduceAdd, Nat.reduceLT, Nat.reduceLeDiff, reduceIte, Nat.reduceEqDiff, reduceCtorEq, argEnv, eq_self, if_true, if_false]
      exact ⟨_, rfl, by rfl⟩) st [] .nils (.nils ..) hE (by simpa using hH) z hz
  simp only [c51, eBase, h38, evX, Int.reduceEq, Int.reduceLT, Int.reduceLE, Nat.reduceMul, Nat.reduceMod, evW, fn_eq, evR, Nat.reduceAdd, Nat.reduceLT, Nat.reduceLeDiff, reduceIte, Nat.reduceEqDiff, reduceCtorEq, argEnv, eq_self, if_true, if_false]
  generalize hz : itLim _ _ = z
  obtain ⟨T, X, rv, rfl, hT, hO⟩ := L _ (by rfl) (by rw [hK]; rfl) z hz
  clear hz L
  rw [fkG_map] at hO
  have h51 := f92 rv (fkL b f i) (by simp only [fkL, List.length_map]; omega) (fk_size hr hi) (K ++ X) (out_slS hO K rfl)
  have ht := kt X
  have hsc := out_tup hO
  generalize K ++ X = Z at *
  simp only [hT, hsc, h51, evX, Int.reduceEq, Int.reduceLT, Int.reduceLE, Nat.reduceMul, Nat.reduceMod, evW, fn_eq, evR, Nat.reduceAdd, Nat.reduceLT, Nat.reduceLeDiff, reduceIte, Nat.reduceEqDiff, reduceCtorEq, argEnv, eq_self, if_true, if_false]
  exact frz_one (ids := []) rfl rfl ht (by simp)
end Go.Proofs.YtbdpceigmnpoaaaGreatDoor.Code

/- call: arguments, states, calls and answers; items on a path (mathematics). -/
set_option linter.unusedSimpArgs false
set_option linter.unusedVariables false
namespace Go.Proofs.YtbdpceigmnpoaaaGreatDoor.Code
open Go.Proofs.YtbdpceigmnpoaaaGreatDoor.Ev

structure Tm where
  field : ByteArray
  op : Int
  value : ByteArray
structure Ar where
  seg : ByteArray
  codes : ByteArray
  whn : List (List Tm)
structure Ste where
  items : List Item
  at' : Int
  next : Int
  parent : Int
  held : Bool
structure An where
  status : ByteArray
  seg : ByteArray
  level : Int
  key : ByteArray
  data : ByteArray
def rTm (x : Tm) : List AV := [.str x.field, .int .i64 x.op, .str x.value]
def eTms (l : List Tm) : AV := .lst (l.map rTm)
def rGr (l : List Tm) : List AV := [eTms l]
def eGrs (c : List (List Tm)) : AV := .lst (c.map rGr)
def rAr (a : Ar) : List AV := [.str a.seg, .str a.codes, eGrs a.whn]
def eArs (l : List Ar) : AV := .lst (l.map rAr)
def rSte (s : Ste) : List AV := [eItems s.items, .int .i64 s.at', .int .i64 s.next, .int .i64 s.parent, .bool s.held]
def eSte (s : Ste) : AV := .agg (rSte s)
def rAn (a : An) : List AV := [.str a.status, .str a.seg, .int .i64 a.level, .str a.key, .str a.data]
def eAn (a : An) : AV := .agg (rAn a)
theorem aAr {l : List Ar} {i : Nat} {x : Ar} (hx : l[i]? = some x) : iaddrK 3 (some (eArs l)) (some (.int .i64 (i : Int))) = some (.fptr (rAr x)) := lFp rAr (fun _ => rfl) hx
structure Ar.Ok (a : Ar) : Prop where
  codes : a.codes.size < 9223372036854775807
  whn : a.whn.length < 9223372036854775807
  gr : ∀ l ∈ a.whn, l.length < 9223372036854775807

/-! items on a path -/
end Go.Proofs.YtbdpceigmnpoaaaGreatDoor.Code

/- call: what conditions, codes and arguments are and say; the answer's data (mathematics). -/
set_option linter.unusedSimpArgs false
set_option linter.unusedVariables false
namespace Go.Proofs.YtbdpceigmnpoaaaGreatDoor.Code
open Go.Proofs.YtbdpceigmnpoaaaGreatDoor.Ev

/-! conditions -/
def fldAt (l : List Fd) (n : ByteArray) : Option Fd := l.find? fun f => decide (f.name = n)
def tmOk (l : List Fd) (x : Tm) : Bool := match fldAt l x.field with
  | some f => decide (1 ≤ x.op) && decide (x.op ≤ 6) && decide ((x.value.size : Int) = f.bytes)
  | none => false
def grOk (l : List Fd) (g : List Tm) : Bool := decide (1 ≤ (g.length : Int)) && decide ((g.length : Int) ≤ 4) && g.all (tmOk l)
def cndOk (l : List Fd) (c : List (List Tm)) : Bool := decide ((c.length : Int) ≤ 4) && c.all (grOk l)
theorem idxOf_find {α : Type} (p : α → Bool) (l : List α) : (idxOf p l = -1 ∧ l.find? p = none) ∨ ∃ (i : Nat) (x : α), idxOf p l = (i : Int) ∧ l[i]? = some x ∧ l.find? p = some x ∧ p x = true := by
  unfold idxOf
  induction l with
  | nil => exact .inl ⟨rfl, rfl⟩
  | cons a l ih =>
    rw [List.findIdx?_cons, List.find?_cons]
    cases ha : p a with
    | true => exact .inr ⟨0, a, rfl, rfl, rfl, ha⟩
    | false =>
      simp only [Bool.false_eq_true, if_false]
      rcases ih with ⟨h1, h2⟩ | ⟨i, x, h1, h2, h3, h4⟩
      · cases hl : l.findIdx? p with
        | none => exact .inl ⟨rfl, h2⟩
        | some j => rw [hl] at h1; simp only at h1; omega
      · cases hl : l.findIdx? p with
        | none => rw [hl] at h1; simp only at h1; omega
        | some j =>
          rw [hl] at h1
          simp only at h1
          have : j = i := by omega
          subst this
          exact .inr ⟨j + 1, x, rfl, h2, h3, h4⟩

/-! arguments -/
/-- the place of a letter among D, L and P -/
def letAt (c : UInt8) : Nat := if c = 68 then 0 else if c = 76 then 1 else if c = 80 then 2 else 3
def cdOk : Nat → List UInt8 → Bool
  | _, [] => true
  | k, c :: l => decide (letAt c < 3) && decide (k ≤ letAt c) && cdOk (letAt c + 1) l
def codesOk (a : Ar) : Bool := cdOk 0 a.codes.data.toList
def hasC (a : Ar) (c : UInt8) : Bool := a.codes.data.toList.any fun x => decide (x = c)
/-- the type with a name, or -1 -/
def tyIx (ts : List Ty) (n : ByteArray) : Int := idxOf (fun t => decide (t.name = n)) ts
def fdsOf (ts : List Ty) (t : Int) : List Fd := (tyOf ts t).fields
def isAb (ts : List Ty) (a t : Int) : Bool := decide (a ≠ t) && (anc ts t.toNat).any fun x => decide (a = x)
def sWell : ByteArray := ⟨#[32, 32]⟩
def sAJ : ByteArray := ⟨#[65, 74]⟩
def sAC : ByteArray := ⟨#[65, 67]⟩
def sAK : ByteArray := ⟨#[65, 75]⟩
/-- the status of an argument behind one of a type -/
def stat (ts : List Ty) (ab : Int) (a : Ar) : ByteArray :=
  if codesOk a = true then (if tyIx ts a.seg < 0 then sAC else if 0 ≤ ab ∧ isAb ts ab (tyIx ts a.seg) = false then sAC else if cndOk (fdsOf ts (tyIx ts a.seg)) a.whn = true then sWell else sAK) else sAJ
def chkA (ts : List Ty) : Int → List Ar → ByteArray
  | _, [] => sWell
  | ab, a :: l => if stat ts ab a = sWell then chkA ts (tyIx ts a.seg) l else stat ts ab a
def tysA (ts : List Ty) (l : List Ar) : List Int := l.map fun a => tyIx ts a.seg
theorem tyIx_cases (ts : List Ty) (n : ByteArray) : tyIx ts n = -1 ∨ ∃ (k : Nat) (t : Ty), tyIx ts n = (k : Int) ∧ ts[k]? = some t ∧ k < ts.length ∧ t.name = n := by
  rcases idxOf_find (fun t : Ty => decide (t.name = n)) ts with ⟨h1, _⟩ | ⟨i, x, h1, h2, _, h4⟩
  · exact .inl h1
  · exact .inr ⟨i, x, h1, h2, (List.getElem?_eq_some_iff.1 h2).1, by simpa using h4⟩
def catL : ByteArray → List ByteArray → ByteArray
  | acc, [] => acc
  | acc, s :: l => catL (acc ++ s) l
/-- the type of an item stands in a list, with the code D -/
def selP (f : List Item) (Z : List (Int × Ar)) (a : Int) : List ByteArray := match Z.find? fun z => decide (z.1 = typ f a) with
  | some z => if hasC z.2 68 = true then [dat f a] else []
  | none => []
end Go.Proofs.YtbdpceigmnpoaaaGreatDoor.Code

/- call: what the program asks of types: Type, Way, Depth, IsAbove, Fits, KeyOf. -/
set_option linter.unusedSimpArgs false
set_option linter.unusedVariables false
namespace Go.Proofs.YtbdpceigmnpoaaaGreatDoor.Code
open Go.Proofs.YtbdpceigmnpoaaaGreatDoor.Ev

theorem f163 (b : Base) (t : Int) (b1 : Nat) (H : Heap) (h1 : Sits H b1 (bBase b)) : cal (evC cprog) false 163 [.int .i64 t, .ptr b1 0 4 0 0] H = some (.bool (tyOut b.types t), H) := by
  rw [cal_of at163]
  have hlen := (sTys [] b.types).len
  simp only [List.length_map] at hlen
  have g1 := h1.at
  simp only [bBase] at g1
  simp only [c163, hlen, g1, evX, Int.reduceEq, Int.reduceLT, Int.reduceLE, Nat.reduceMul, Nat.reduceMod, evW, fn_eq, evR, Nat.reduceAdd, Nat.reduceLT, Nat.reduceLeDiff, reduceIte, Nat.reduceEqDiff, reduceCtorEq, argEnv, eq_self, if_true, if_false]
  repeat' ((first | rw [guardK_cases] | rw [condK_bool] | rw [guardD_cases]); split <;> simp only [c163, hlen, g1, evX, Int.reduceEq, Int.reduceLT, Int.reduceLE, Nat.reduceMul, Nat.reduceMod, evW, evR, Nat.reduceAdd, Nat.reduceLT, Nat.reduceLeDiff, reduceIte, Nat.reduceEqDiff, reduceCtorEq, argEnv, eq_self, if_true, if_false, *])
  all_goals (simp_all [tyOut]; try omega)
theorem f139 (b : Base) (hb : b.Ok) (a : AV) (hat : a.isTup = false) (l : List Int) (hl : l.length < 9223372036854775807) (H : Heap) (ha : SlAt H 1 a (l.map rI)) : cal (evC cprog) false 139 [eBase b, a] H = some (.int .i64 (errB b l), H) := by
  rw [cal_of at139]
  have h1 := f75 b hb
  simp only [eBase] at h1
  cases hv : validB b with
  | false =>
    simp only [c139, eBase, h1, hv, evX, Int.reduceEq, Int.reduceLT, Int.reduceLE, Nat.reduceMul, Nat.reduceMod, evW, fn_eq, evR, Nat.reduceAdd, Nat.reduceLT, Nat.reduceLeDiff, reduceIte, Nat.reduceEqDiff, reduceCtorEq, argEnv, eq_self, if_true, if_false]
    simp [errB, hv]
  | true =>
    have h67 := containsFunc_ok (g := 107) at67 (indexFunc_ok (sz := 1) (ag := false) at107 rI (fun x => .int .i64 x) lI 163 [.ptr H.length 0 4 0 0] (tyOut b.types) (H ++ [bBase b]) a l (ha.app _) hl fun x _ => f163 b x H.length _ (.mk (by simp)))
    simp only [bBase] at h67
    cases hc : l.any (tyOut b.types) with
    | false =>
      simp only [c139, eBase, h1, hv, h67, hc, scal_ptr, hat, evX, Int.reduceEq, Int.reduceLT, Int.reduceLE, Nat.reduceMul, Nat.reduceMod, evW, fn_eq, evR, Nat.reduceAdd, Nat.reduceLT, Nat.reduceLeDiff, reduceIte, Nat.reduceEqDiff, reduceCtorEq, argEnv, eq_self, if_true, if_false]
      simp [errB, hv, hc]
    | true =>
      simp only [c139, eBase, h1, hv, h67, hc, scal_ptr, hat, evX, Int.reduceEq, Int.reduceLT, Int.reduceLE, Nat.reduceMul, Nat.reduceMod, evW, fn_eq, evR, Nat.reduceAdd, Nat.reduceLT, Nat.reduceLeDiff, reduceIte, Nat.reduceEqDiff, reduceCtorEq, argEnv, eq_self, if_true, if_false]
      simp [errB, hv, hc]
theorem nil_slat (H : Heap) : SlAt H 1 .nils (([] : List Int).map rI) := ⟨rfl, fun i row hi => by simp at hi⟩
theorem f139k (b : Base) (hb : b.Ok) (hv : validB b = true) (k : Nat) (hk : k < b.types.length) (H X : Heap) : cal (evC cprog) false 139 [eBase b, .ref (H.length + X.length) 0 1 0 1] (H ++ (X ++ [⟨0, true, 3, 1, [[.int .i64 (k : Int)]]⟩])) = some (.int .i64 0, H ++ (X ++ [⟨0, true, 3, 1, [[.int .i64 (k : Int)]]⟩])) := by
  rw [f139 b hb _ rfl [(k : Int)] (by simp) _ (one_slat H (k : Int) X), errB_ok hv hk]
theorem f140 (t : Ty) (d : ByteArray) (H : Heap) : cal (evC cprog) false 140 [.agg (rTy t), .str d] H = some (.bool (decide (t.min ≤ (d.size : Int)) && decide ((d.size : Int) ≤ t.size)), H) := by
  rw [cal_of at140]
  simp only [c140, rTy, evX, Int.reduceEq, Int.reduceLT, Int.reduceLE, Nat.reduceMul, Nat.reduceMod, evW, fn_eq, evR, Nat.reduceAdd, Nat.reduceLT, Nat.reduceLeDiff, reduceIte, Nat.reduceEqDiff, reduceCtorEq, argEnv, eq_self, if_true, if_false]
  repeat' ((first | rw [guardK_cases] | rw [condK_bool] | rw [guardD_cases]); split <;> simp only [c140, rTy, evX, Int.reduceEq, Int.reduceLT, Int.reduceLE, Nat.reduceMul, Nat.reduceMod, evW, evR, Nat.reduceAdd, Nat.reduceLT, Nat.reduceLeDiff, reduceIte, Nat.reduceEqDiff, reduceCtorEq, argEnv, eq_self, if_true, if_false, *])
  all_goals simp_all
theorem f141 (f : Fd) (h0 : 0 ≤ f.at') (h1 : 1 ≤ f.bytes) (h2 : f.at' + f.bytes ≤ 40) (d : ByteArray) (hd : f.at' + f.bytes ≤ (d.size : Int)) (H : Heap) :
    cal (evC cprog) false 141 [.agg (rFd f), .str d] H = some (.tup [.str (d.extract f.at'.toNat (f.at' + f.bytes).toNat), .bool true], H) := by
  rw [cal_of at141]
  have hw := wrapQ (a := f.at') (b := f.bytes) (by omega) (by omega) (by omega) (by omega)
  have k2 : ¬ (d.size : Int) < f.at' + f.bytes := by omega
  have hsl := slcs_at d (a := f.at') (c := f.at' + f.bytes) h0 (by omega) (by omega)
  simp only [c141, rFd, k2, hw, p_slcs, slcsK_some, asNat_int h0, asNat_int (show 0 ≤ f.at' + f.bytes by omega), hsl, evX, Int.reduceEq, Int.reduceLT, Int.reduceLE, Nat.reduceMul, Nat.reduceMod, evW, fn_eq, evR, Nat.reduceAdd, Nat.reduceLT, Nat.reduceLeDiff, reduceIte, Nat.reduceEqDiff, reduceCtorEq, argEnv, eq_self, if_true, if_false]
theorem f109 (b : Base) (hb : b.Ok) (hv : validB b = true) (k : Nat) (t : Ty) (ht : b.types[k]? = some t) (hty : tyOk t = true) (d : ByteArray) (hf : fits b.types ⟨(k : Int), d⟩ = true) (H : Heap) :
    cal (evC cprog) false 109 [eBase b, .int .i64 (k : Int), .str d] H = some (.tup [.str (keyOf t d), .int .i64 0], H) := by
  rw [cal_of at109]
  have hk := (List.getElem?_eq_some_iff.1 ht).1
  have h139 := f139k b hb hv k hk H [bBase b]
  simp only [eBase, bBase, bI, List.length_cons, List.length_nil, Nat.zero_add, List.cons_append, List.nil_append] at h139
  have hat := aTy ht
  have h140 := f140 t d
  rw [fits_at (x := ⟨(k : Int), d⟩) rfl ht] at hf
  rw [hf] at h140
  simp only [rTy] at h140
  by_cases hk : t.key < 0
  · simp only [c109, eBase, h139, hat, rTy, h140, hk, evX, Int.reduceEq, Int.reduceLT, Int.reduceLE, Nat.reduceMul, Nat.reduceMod, evW, fn_eq, evR, Nat.reduceAdd, Nat.reduceLT, Nat.reduceLeDiff, reduceIte, Nat.reduceEqDiff, reduceCtorEq, argEnv, eq_self, if_true, if_false]
    simp [keyOf, hk]
  · obtain ⟨m, f, h1, h2, h3, h4, h5, h6⟩ := key_in hty (by omega)
    have haf := aFd h2
    have k0 : ¬ (m : Int) < 0 := by omega
    simp only [Bool.and_eq_true, decide_eq_true_eq] at hf
    have h141 := f141 f h3 h4 (by omega) d (by omega)
    simp only [rFd] at h141
    rw [h1] at h140
    rw [keyOf_at h1 h2]
    simp only [c109, eBase, h139, hat, rTy, rFd, h140, h1, k0, haf, h141, evX, Int.reduceEq, Int.reduceLT, Int.reduceLE, Nat.reduceMul, Nat.reduceMod, evW, fn_eq, evR, Nat.reduceAdd, Nat.reduceLT, Nat.reduceLeDiff, reduceIte, Nat.reduceEqDiff, reduceCtorEq, argEnv, eq_self, if_true, if_false]
end Go.Proofs.YtbdpceigmnpoaaaGreatDoor.Code

/- call: ways of types, of the program; depths; types above. -/
set_option linter.unusedSimpArgs false
set_option linter.unusedVariables false
namespace Go.Proofs.YtbdpceigmnpoaaaGreatDoor.Code
open Go.Proofs.YtbdpceigmnpoaaaGreatDoor.Ev

/-- a list that has grown, turned around by slices.Reverse, and frozen -/
theorem rev_out {K X H : Heap} {rv : AV} {l : List Int} (hO : Out K.length 1 3 X rv (l.reverse.map rI)) (hne : l ≠ []) (hl : l.length ≤ 1000) (kt : ∀ Z, (K ++ Z).take H.length = H) (hK : H.length ≤ K.length) :
    ∃ Z ids, cal (evC cprog) false 138 [rv] (K ++ X) = some (.tup [], Z) ∧ rv.isTup = false ∧ rv.scal = true ∧ fz Z fzDepth rv = some (eIs l, ids) ∧ (∀ x ∈ ids, H.length ≤ x) ∧ Z.take H.length = H := by
  have hp0 := List.length_pos_iff.2 hne
  rcases hO with ⟨h1, _⟩ | ⟨_, j, v, rfl, hXj⟩
  · exact absurd (by simpa using h1) hne
  have hat : (K ++ X)[K.length + j]? = some ⟨v, true, 3, 1, l.reverse.map rI⟩ := by rw [at_app]; exact hXj
  have h138 := f138 (K ++ X) (K.length + j) v l.reverse hat (by simpa using hp0) (by simpa using hl)
  have hbl := (List.getElem?_eq_some_iff.1 hat).1
  rw [List.reverse_reverse] at h138
  simp only [List.length_reverse] at h138
  obtain ⟨ids, g1, g2⟩ := fz_blk (H := (K ++ X).set (K.length + j) ⟨v, true, 3, 1, l.map rI⟩) (b := K.length + j) (v := v) (sz := 1) (len := l.length) (k := ⟨v, true, 3, 1, l.map rI⟩) (by simp only [curBlk, List.getElem?_set_self hbl]; rfl) (rows := l.map rI) (by show (l.map rI).take l.length = _; rw [List.take_of_length_le (by simp)]) (plain_ints _) 6
  have hlr : (l.reverse.map rI).length = l.length := by simp
  rw [hlr]
  exact ⟨_, ids, h138, rfl, rfl, g1, fun x hx => by rw [g2 x hx]; omega, by rw [List.take_set_of_le (by omega)]; exact kt X⟩
/-- a walk up the types: what is ahead, and what was walked -/
structure WalkT (ts : List Ty) (k : Nat) (c : Int) (acc : List Int) : Prop where
  lo : -1 ≤ c
  hi : c < (ts.length : Int)
  eq : anc ts k = ancI ts c ++ acc
  len : (acc.length : Int) + c ≤ (ts.length : Int)
theorem WalkT.step {ts : List Ty} {k c : Nat} {acc : List Int} {t : Ty} (hg : Good ts ts.length) (w : WalkT ts k (c : Int) acc) (ht : ts[c]? = some t) : WalkT ts k t.parent ((c : Int) :: acc) := by
  have h1 := w.hi
  have hc : c < ts.length := by omega
  have hp := hg c t hc ht
  refine ⟨hp.1, by omega, ?_, by have := w.len; simp; omega⟩
  rw [w.eq, ancI_nat, anc_step hg hc ht, List.append_assoc]; rfl
theorem WalkT.last {ts : List Ty} {k : Nat} {c : Int} {acc : List Int} (w : WalkT ts k c acc) (h : c < 0) : acc = anc ts k := by
  rw [w.eq, ancI_neg _ h]; rfl
end Go.Proofs.YtbdpceigmnpoaaaGreatDoor.Code

/- call: conditions, of the program. -/
set_option linter.unusedSimpArgs false
set_option linter.unusedVariables false
namespace Go.Proofs.YtbdpceigmnpoaaaGreatDoor.Code
open Go.Proofs.YtbdpceigmnpoaaaGreatDoor.Ev

theorem fn_use {call it} {n : Nat} {res : List CRes} {p : List AV → Heap → Option (List AV × Heap)} (args : List AV) (H : Heap) : evFn call it ⟨n, res, .user p, false, false⟩ args H = bodyK res ((p args H).map fun r => (CX.ret, (argEnv 0 r.1, r.2))) := by
  rw [fn_eq]
  simp only [evCode, user_args]
end Go.Proofs.YtbdpceigmnpoaaaGreatDoor.Code

/- call: whether conditions hold, of the program. -/
set_option linter.unusedSimpArgs false
set_option linter.unusedVariables false
namespace Go.Proofs.YtbdpceigmnpoaaaGreatDoor.Code
open Go.Proofs.YtbdpceigmnpoaaaGreatDoor.Ev

end Go.Proofs.YtbdpceigmnpoaaaGreatDoor.Code

/- call: types, fields and conditions, of the document. -/
set_option linter.unusedSimpArgs false
set_option linter.unusedVariables false
namespace Go.Proofs.YtbdpceigmnpoaaaGreatDoor.Code
open Go.Proofs.YtbdpceigmnpoaaaGreatDoor.Ev

theorem f91k (b : Base) (hb : b.Ok) (hv : validB b = true) (k : Nat) (hk : k < b.types.length) (H X : Heap) : cal (evC cprog) false 91 [eBase b, .ref (H.length + X.length) 0 1 0 1] (H ++ (X ++ [⟨0, true, 3, 1, [[.int .i64 (k : Int)]]⟩])) = some (.int .i64 0, H ++ (X ++ [⟨0, true, 3, 1, [[.int .i64 (k : Int)]]⟩])) := by
  rw [f91 b hb _ [(k : Int)] (by simp) _ (one_slat H (k : Int) X), errB_ok hv hk]
end Go.Proofs.YtbdpceigmnpoaaaGreatDoor.Code

/- call: whether conditions hold, of the document. -/
set_option linter.unusedSimpArgs false
set_option linter.unusedVariables false
namespace Go.Proofs.YtbdpceigmnpoaaaGreatDoor.Code
open Go.Proofs.YtbdpceigmnpoaaaGreatDoor.Ev

end Go.Proofs.YtbdpceigmnpoaaaGreatDoor.Code

/- call: codes, of the program and of the document. -/
set_option linter.unusedSimpArgs false
set_option linter.unusedVariables false
namespace Go.Proofs.YtbdpceigmnpoaaaGreatDoor.Code
open Go.Proofs.YtbdpceigmnpoaaaGreatDoor.Ev

theorem drop_at {α : Type} {l : List α} {i : Nat} {x : α} (h : l[i]? = some x) : l.drop i = x :: l.drop (i + 1) := by
  obtain ⟨hi, he⟩ := List.getElem?_eq_some_iff.1 h
  rw [List.drop_eq_getElem_cons hi, he]
theorem f142 (s : ByteArray) (c : UInt8) (H : Heap) : cal (evC cprog) false 142 [.str s, .int .u8 (c.toNat : Int)] H = some (.int .i64 (Lib.indexByte s.data.toList c), H) := by
  rw [cal_of at142, show c142 = ⟨0, [.t 0], .user pIdx, false, false⟩ from rfl, fn_use]
  have e : ((c.toNat : Int)).toNat.toUInt8 = c := by rw [Int.toNat_natCast]; exact UInt8.ofNat_toNat
  simp only [pIdx, e]
  simp only [evX, Int.reduceEq, Int.reduceLT, Int.reduceLE, Nat.reduceMul, Nat.reduceMod, evW, fn_eq, evR, Nat.reduceAdd, Nat.reduceLT, Nat.reduceLeDiff, reduceIte, Nat.reduceEqDiff, reduceCtorEq, argEnv, eq_self, if_true, if_false]
theorem ix_any (c : UInt8) : ∀ l : List UInt8, decide (0 ≤ Lib.indexByte l c) = l.any fun x => decide (x = c)
  | [] => rfl
  | b :: l => by
    have ih := ix_any c l
    have hg := Lib.indexByte_ge l c
    rw [List.any_cons, ← ih, Lib.indexByte]
    by_cases hb : b = c
    · subst hb; simp
    · have hb' : (b == c) = false := by simpa using hb
      rw [hb', decide_eq_false hb, Bool.false_or]
      simp only [Bool.false_eq_true, if_false]
      by_cases h1 : Lib.indexByte l c = -1
      · simp [h1]
      · have : (Lib.indexByte l c == -1) = false := by simpa using h1
        rw [this]
        simp only [Bool.false_eq_true, if_false]
        rw [decide_eq_true (show 0 ≤ Lib.indexByte l c + 1 by omega), decide_eq_true (show 0 ≤ Lib.indexByte l c by omega)]
theorem f111 (a : Ar) (c : UInt8) (H : Heap) : cal (evC cprog) false 111 [.agg (rAr a), .int .u8 (c.toNat : Int)] H = some (.bool (hasC a c), H) := by
  rw [cal_of at111]
  have h142 := f142 a.codes c
  have e := ix_any c a.codes.data.toList
  simp only [c111, rAr, h142, e, evX, Int.reduceEq, Int.reduceLT, Int.reduceLE, Nat.reduceMul, Nat.reduceMod, evW, fn_eq, evR, Nat.reduceAdd, Nat.reduceLT, Nat.reduceLeDiff, reduceIte, Nat.reduceEqDiff, reduceCtorEq, argEnv, eq_self, if_true, if_false]
  rfl
end Go.Proofs.YtbdpceigmnpoaaaGreatDoor.Code

/- call: the status of arguments, and their types, of the program and of the document. -/
set_option linter.unusedSimpArgs false
set_option linter.unusedVariables false
namespace Go.Proofs.YtbdpceigmnpoaaaGreatDoor.Code
open Go.Proofs.YtbdpceigmnpoaaaGreatDoor.Ev

def abOk (ts : List Ty) (ab : Int) : Prop := ab = -1 ∨ ∃ k : Nat, ab = (k : Int) ∧ k < ts.length
theorem abOk_tyIx (ts : List Ty) (n : ByteArray) : abOk ts (tyIx ts n) := by
  rcases tyIx_cases ts n with h | ⟨k, t, h1, _, h3, _⟩
  · exact .inl h
  · exact .inr ⟨k, h1, h3⟩
/-- where a check stands -/
structure Chk (ts : List Ty) (l : List Ar) (i : Nat) (ab : Int) : Prop where
  le : i ≤ l.length
  abk : abOk ts ab
  eq : chkA ts (-1) l = chkA ts ab (l.drop i)
theorem Chk.step {ts : List Ty} {l : List Ar} {i : Nat} {ab : Int} (c : Chk ts l i ab) {a : Ar} (ha : l[i]? = some a) (hs : stat ts ab a = sWell) : Chk ts l (i + 1) (tyIx ts a.seg) := by
  have hlt := (List.getElem?_eq_some_iff.1 ha).1
  refine ⟨hlt, abOk_tyIx .., ?_⟩
  have hd := drop_at ha
  rw [c.eq, hd, chkA, if_pos hs]
theorem Chk.fin {ts : List Ty} {l : List Ar} {i : Nat} {ab : Int} (c : Chk ts l i ab) (h : l.length ≤ i) : chkA ts (-1) l = sWell := by
  rw [c.eq, List.drop_eq_nil_of_le h]; rfl
end Go.Proofs.YtbdpceigmnpoaaaGreatDoor.Code

/- call: slices.Repeat of one number; the book of a base and a forest. -/
set_option linter.unusedSimpArgs false
set_option linter.unusedVariables false
namespace Go.Proofs.YtbdpceigmnpoaaaGreatDoor.Code
open Go.Proofs.YtbdpceigmnpoaaaGreatDoor.Ev

theorem u64_small (n : Nat) (h : n ≤ 12) : binK .and (some (.int .u64 (n : Int))) (some (.int .u64 4294967295)) = some (.int .u64 (n : Int)) ∧ binK .shr (some (.int .u64 (n : Int))) (some (.int .u64 32)) = some (.int .u64 0) := by
  have : n = 0 ∨ n = 1 ∨ n = 2 ∨ n = 3 ∨ n = 4 ∨ n = 5 ∨ n = 6 ∨ n = 7 ∨ n = 8 ∨ n = 9 ∨ n = 10 ∨ n = 11 ∨ n = 12 := by omega
  rcases this with rfl | rfl | rfl | rfl | rfl | rfl | rfl | rfl | rfl | rfl | rfl | rfl | rfl <;> exact ⟨rfl, rfl⟩
theorem wrapU {a : Int} (h0 : 0 ≤ a) (h1 : a ≤ 1000000) : IntKind.u64.wrap a = a := by
  simp only [IntKind.wrap]
  split <;> simp_all [IntKind.bits, IntKind.signed] <;> omega
theorem f181 (n : Nat) (h : n ≤ 12) (H : Heap) : cal (evC cprog) false 181 [.int .u64 1, .int .u64 (n : Int)] H = some (.tup [.int .u64 0, .int .u64 (n : Int)], H) := by
  rw [cal_of at181]
  obtain ⟨n1, n2⟩ := u64_small n h
  obtain ⟨o1, o2⟩ := u64_small 1 (by omega)
  obtain ⟨z1, z2⟩ := u64_small 0 (by omega)
  simp only [Int.natCast_one, Int.natCast_zero] at o1 o2 z1 z2
  have w1 : IntKind.u64.wrap (1 * (n : Int)) = (n : Int) := by rw [Int.one_mul, wrapU (by omega) (by omega)]
  have w2 : IntKind.u64.wrap (0 * (n : Int)) = 0 := by rw [Int.zero_mul, wrapU (by omega) (by omega)]
  have w3 : IntKind.u64.wrap (0 + 0) = 0 := rfl
  have w4 : IntKind.u64.wrap (1 * 0) = 0 := rfl
  have w5 : IntKind.u64.wrap (0 * 0) = 0 := rfl
  simp only [c181, n1, n2, o1, o2, z1, z2, w1, w2, w3, w4, w5, evX, Int.reduceEq, Int.reduceLT, Int.reduceLE, Nat.reduceMul, Nat.reduceMod, evW, fn_eq, evR, Nat.reduceAdd, Nat.reduceLT, Nat.reduceLeDiff, reduceIte, Nat.reduceEqDiff, reduceCtorEq, argEnv, eq_self, if_true, if_false]
theorem f161 (n : Nat) (h : n ≤ 12) (H : Heap) : cal (evC cprog) false 161 [.int .u64 1, .int .u64 (n : Int)] H = some (.tup [.int .u64 0, .int .u64 (n : Int)], H) := by
  rw [cal_of at161]
  have h1 := f181 n h
  simp only [c161, h1, evX, Int.reduceEq, Int.reduceLT, Int.reduceLE, Nat.reduceMul, Nat.reduceMod, evW, fn_eq, evR, Nat.reduceAdd, Nat.reduceLT, Nat.reduceLeDiff, reduceIte, Nat.reduceEqDiff, reduceCtorEq, argEnv, eq_self, if_true, if_false]
/-- what slices.Repeat has filled so far -/
def repBlk (k N : Nat) : Blk := ⟨0, true, 3, 1, List.replicate k [.int .i64 (-1)] ++ List.replicate (N - k) [.int .i64 0]⟩
theorem rep_els (a z : AV) {k m N : Nat} (h1 : m ≤ k) (h2 : k + m ≤ N) : (List.replicate k [a] ++ List.replicate (N - k) [z]).take k ++ (List.replicate k [a]).take m ++ (List.replicate k [a] ++ List.replicate (N - k) [z]).drop (k + m) = List.replicate (k + m) [a] ++ List.replicate (N - (k + m)) [z] := by
  rw [List.take_left' (by simp), List.take_replicate, List.drop_append, List.drop_replicate, List.drop_replicate, List.length_replicate, show k - (k + m) = 0 by omega, show N - k - (k + m - k) = N - (k + m) by omega, show min m k = m by omega, List.replicate_zero, List.nil_append, List.replicate_append_replicate]
theorem rep_cpy (N : Nat) (H : Heap) : ∀ k, 0 < k → k < N → copyK 1 (H ++ [repBlk k N]) (some (.ref H.length 0 1 k (N - k))) (some (.ref H.length 0 1 0 k)) = some (.int .i64 (min k (N - k) : Nat), H ++ [repBlk (k + min k (N - k)) N]) := fun k k0 k1 => by
  have e2 : curBlk (H ++ [repBlk k N]) H.length 0 1 = some (repBlk k N) := by simp [curBlk, repBlk]
  obtain ⟨j, hj⟩ : ∃ j, k = j + 1 := ⟨k - 1, by omega⟩
  have e3 : srcRows (H ++ [repBlk k N]) (.ref H.length 0 1 0 k) = some (List.replicate k [.int .i64 (-1)]) := by
    rw [hj] at e2 ⊢
    simp only [srcRows, rowsOf, e2, Option.map_some, List.drop_zero]
    simp only [repBlk]
    rw [List.take_left' (by simp)]
  have hh : headOk 1 (List.replicate k [AV.int .i64 (-1)]) = true := by rw [hj]; rfl
  simp only [copyK, e3, evCopy, evLen, List.length_replicate]
  rw [if_neg (by omega), if_neg (by rw [hh]; simp)]
  simp only [e2, if_true]
  have hx := rep_els (.int .i64 (-1)) (.int .i64 0) (k := k) (m := min k (N - k)) (N := N) (by omega) (by omega)
  simp only [repBlk, hx, List.set_append_right _ _ (Nat.le_refl _), Nat.sub_self, List.set_cons_zero]
theorem l136 (N : Nat) (h0 : 0 < N) (h : N ≤ 12) (H : Heap) (st : St) (hE : keepEnv st.1 [7, 8] = [(7, .ref H.length 0 1 0 N), (8, .int .i64 1)]) (hH : st.2 = H ++ [repBlk 1 N]) (z : Option (CX × St)) (hz : itLim (evCode (evC cprog) itLim c136_l0) st = z) :
    ∃ T, z = some (.exit 0, T, H ++ [repBlk N N]) ∧ keepEnv T [7] = [(7, .ref H.length 0 1 0 N)] := by
  have L := loop_rule (σ := Nat) (m := [7, 8]) (env := fun k => [(7, .ref H.length 0 1 0 N), (8, .int .i64 (k : Int))]) (hp := fun k => H ++ [repBlk k N])
    (P := fun _ r => ∃ T, r = (.exit 0, T, H ++ [repBlk N N]) ∧ keepEnv T [7] = [(7, .ref H.length 0 1 0 N)])
    (mu := fun k => N - k) (I := fun k => 0 < k ∧ k ≤ N) (evCode (evC cprog) itLim c136_l0) ?_ 1 st ⟨by omega, by omega⟩ hE hH z hz
  · obtain ⟨_, rfl, T, rfl, hT⟩ := L
    exact ⟨T, rfl, hT⟩
  · rintro k ⟨k0, k1⟩ E hE
    by_cases hlt : k < N
    · have hk : (k : Int) < (N : Int) := by omega
      have s1 : ∀ Z, evSlc Z 1 (.ref H.length 0 1 0 N) (some k) none none = some (.ref H.length 0 1 k (N - k)) := fun Z => by simp [evSlc, k1]
      have s2 : ∀ Z, evSlc Z 1 (.ref H.length 0 1 0 N) none (some k) none = some (.ref H.length 0 1 0 k) := fun Z => by simp [evSlc, k1]
      have hc := rep_cpy N H k k0 hlt
      have hw : IntKind.i64.wrap ((k : Int) + ((min k (N - k) : Nat) : Int)) = ((k + min k (N - k) : Nat) : Int) := by rw [wrap_i64 (by omega) (by omega)]; omega
      simp only [c136_l0, hE, hk, s1, s2, asNat_cast, hc, hw, evX, Int.reduceEq, Int.reduceLT, Int.reduceLE, Nat.reduceMul, Nat.reduceMod, evW, fn_eq, evR, Nat.reduceAdd, Nat.reduceLT, Nat.reduceLeDiff, reduceIte, Nat.reduceEqDiff, reduceCtorEq, argEnv, eq_self, if_true, if_false]
      exact q_next (k + min k (N - k)) (by rfl) rfl ⟨by omega, by omega⟩ (by omega) fun r h => h
    · have hk : ¬ (k : Int) < (N : Int) := by omega
      have : k = N := by omega
      subst this
      simp only [c136_l0, hE, hk, evX, Int.reduceEq, Int.reduceLT, Int.reduceLE, Nat.reduceMul, Nat.reduceMod, evW, fn_eq, evR, Nat.reduceAdd, Nat.reduceLT, Nat.reduceLeDiff, reduceIte, Nat.reduceEqDiff, reduceCtorEq, argEnv, eq_self, if_true, if_false]
      exact q_exit ⟨_, rfl, by rfl⟩
set_option maxHeartbeats 4000000 in
theorem f136 (N : Nat) (h0 : 0 < N) (h : N ≤ 12) (b : Nat) (H : Heap) (hb : H[b]? = some ⟨0, true, 3, 1, [[.int .i64 (-1)]]⟩) : cal (evC cprog) false 136 [.ref b 0 1 0 1, .int .i64 (N : Int)] H = some (.ref H.length 0 1 0 N, H ++ [⟨0, true, 3, 1, List.replicate N [.int .i64 (-1)]⟩]) := by
  rw [cal_of at136]
  have h161 : ∀ K, cal (evC cprog) false 161 [.int .u64 ((1 : Nat) : Int), .int .u64 (N : Int)] K = some (.tup [.int .u64 0, .int .u64 (N : Int)], K) := f161 N h
  have hw1 : IntKind.u64.wrap ((1 : Nat) : Int) = ((1 : Nat) : Int) := rfl
  have hw2 : IntKind.u64.wrap (N : Int) = (N : Int) := wrapU (by omega) (by omega)
  have hw3 : IntKind.i64.wrap (N : Int) = (N : Int) := wrap_i64 (by omega) (by omega)
  have hn0 : ¬ (N : Int) < 0 := by omega
  have hn1 : ¬ (9223372036854775807 : Int) < (N : Int) := by omega
  have hm : ∀ K : Heap, mksK 3 1 8 [.int .i64 0] K (some (.int .i64 (N : Int))) (some (.int .i64 (N : Int))) = some (.ref K.length 0 1 0 N, K ++ [repBlk 0 N]) := fun K => by
    have ha : asNat (.int .i64 (N : Int)) = some N := asNat_cast .i64 N
    simp only [mksK, ha]
    rw [if_pos ⟨Nat.le_refl _, by unfold reach; omega, by unfold reach; omega, rfl, h0⟩]
    simp [repBlk]
  have hbl := (List.getElem?_eq_some_iff.1 hb).1
  have hc1 : copyK 1 (H ++ [repBlk 0 N]) (some (.ref H.length 0 1 0 N)) (some (.ref b 0 1 0 1)) = some (.int .i64 1, H ++ [repBlk 1 N]) := by
    have e1 : curBlk (H ++ [repBlk 0 N]) b 0 1 = some ⟨0, true, 3, 1, [[.int .i64 (-1)]]⟩ := by simp [curBlk, List.getElem?_append_left hbl, hb]
    have e2 : curBlk (H ++ [repBlk 0 N]) H.length 0 1 = some (repBlk 0 N) := by simp [curBlk, repBlk]
    have e3 : srcRows (H ++ [repBlk 0 N]) (.ref b 0 1 0 1) = some [[.int .i64 (-1)]] := by simp [srcRows, rowsOf, e1]
    have e4 : min 1 N = 1 := by omega
    simp only [copyK, e3, evCopy, evLen, List.length_cons, List.length_nil, Nat.zero_add, e4]
    rw [if_neg (by omega)]
    simp only [headOk, List.length_cons, List.length_nil, e2, if_true]
    simp [repBlk]
  simp only [c136, hn0, h161, hw1, hw2, hw3, hn1, hm, hc1, Int.lt_irrefl, evX, Int.reduceEq, Int.reduceLT, Int.reduceLE, Nat.reduceMul, Nat.reduceMod, evW, fn_eq, evR, Nat.reduceAdd, Nat.reduceLT, Nat.reduceLeDiff, reduceIte, Nat.reduceEqDiff, reduceCtorEq, argEnv, eq_self, if_true, if_false]
  generalize hz : itLim _ _ = z
  obtain ⟨T, rfl, hT⟩ := l136 N h0 h H _ (by rfl) (by rfl) z hz
  simp only [hT, evX, Int.reduceEq, Int.reduceLT, Int.reduceLE, Nat.reduceMul, Nat.reduceMod, evW, fn_eq, evR, Nat.reduceAdd, Nat.reduceLT, Nat.reduceLeDiff, reduceIte, Nat.reduceEqDiff, reduceCtorEq, argEnv, eq_self, if_true, if_false]
  simp [repBlk]

/-! the book -/
def parL (b : Base) (f : List Item) (n : Nat) : List Int := (List.range n).map fun i => par b.types f i
def lasL (f : List Item) (N i : Nat) : List Int := (List.range N).map fun (k : Nat) => lastTo f (k : Int) i
def bBk (b : Base) (f : List Item) (pv : AV) : Blk := ⟨0, true, 149, 6, [[.str b.name, .int .i64 b.kind, eTys b.types, eSes b.indexes, eItems f, pv]]⟩
/-- a book lies there -/
def Bk (b : Base) (f : List Item) (p : Nat) (K : Heap) : Prop := ∃ pv, Sits K p (bBk b f pv) ∧ SlAt K 1 pv ((parL b f f.length).map rI)
theorem parL_at {b : Base} {f : List Item} {n i : Nat} (hi : i < n) : (parL b f n)[i]? = some (par b.types f i) := by simp [parL, hi]
theorem parL_step (b : Base) (f : List Item) (n : Nat) : parL b f (n + 1) = parL b f n ++ [par b.types f n] := by simp [parL, List.range_succ]
theorem lasL_at {f : List Item} {N i k : Nat} (hk : k < N) : (lasL f N i)[k]? = some (lastTo f (k : Int) i) := by simp [lasL, hk]
theorem lasL_zero (f : List Item) (N : Nat) : (lasL f N 0).map rI = List.replicate N [.int .i64 (-1)] := by
  rw [List.eq_replicate_iff]
  refine ⟨by simp [lasL], fun r hr => ?_⟩
  obtain ⟨x, hx, rfl⟩ := List.mem_map.1 hr
  obtain ⟨k, _, rfl⟩ := List.mem_map.1 hx
  rfl
theorem lasL_step {f : List Item} {N i k : Nat} (hk : typ f (i : Int) = (k : Int)) (hkN : k < N) : ((lasL f N i).map rI).set k [.int .i64 (i : Int)] = (lasL f N (i + 1)).map rI := by
  apply List.ext_getElem?
  intro j
  rw [List.getElem?_set]
  by_cases hj : j < N
  · have e1 : ((lasL f N (i + 1)).map rI)[j]? = some (rI (lastTo f (j : Int) (i + 1))) := by rw [List.getElem?_map, lasL_at hj]; rfl
    have e2 : ((lasL f N i).map rI)[j]? = some (rI (lastTo f (j : Int) i)) := by rw [List.getElem?_map, lasL_at hj]; rfl
    rw [e1, e2, lastTo, hk]
    by_cases he : k = j
    · subst he
      rw [if_pos rfl, if_pos (by simp [lasL, hkN]), if_pos rfl]; rfl
    · rw [if_neg he, if_neg (by omega)]
  · have e1 : ((lasL f N (i + 1)).map rI)[j]? = none := by rw [List.getElem?_eq_none]; simp [lasL]; omega
    have e2 : ((lasL f N i).map rI)[j]? = none := by rw [List.getElem?_eq_none]; simp [lasL]; omega
    rw [e1, e2, if_neg (by omega)]
end Go.Proofs.YtbdpceigmnpoaaaGreatDoor.Code

/- call: the book is opened. -/
set_option linter.unusedSimpArgs false
set_option linter.unusedVariables false
namespace Go.Proofs.YtbdpceigmnpoaaaGreatDoor.Code
open Go.Proofs.YtbdpceigmnpoaaaGreatDoor.Ev

theorem nilck_ptr (b v s i o : Nat) : nilckK (some (.ptr b v s i o)) = some (.ptr b v s i o) := rfl
theorem noRef_ptr (b v s i o : Nat) : noRef (.ptr b v s i o) = false := rfl
theorem out_cells {n sz ty : Nat} {X : Heap} {rv : AV} {rows : List (List AV)} (h : Out n sz ty X rv rows) : rv.cells = [rv] := by
  rcases h with ⟨rfl, rfl | rfl⟩ | ⟨h1, j, v, rfl, h3⟩ <;> rfl
theorem out_oblk {n sz ty : Nat} {X : Heap} {rv : AV} {rows : List (List AV)} (h : Out n sz ty X rv rows) : oblk rv ≠ some (n + X.length) := by
  rcases h with ⟨rfl, rfl | rfl⟩ | ⟨h1, j, v, rfl, h3⟩
  · simp [oblk]
  · simp [oblk]
  · have := (List.getElem?_eq_some_iff.1 h3).1
    simp only [oblk, ne_eq, Option.some.injEq]
    omega
def litB : Blk := ⟨0, true, 3, 1, [[.int .i64 (-1)]]⟩
def lasB (f : List Item) (N i : Nat) : Blk := ⟨0, true, 3, 1, (lasL f N i).map rI⟩
def opH (b : Base) (f : List Item) (H : Heap) (i : Nat) (rv : AV) (X : Heap) : Heap := H ++ (bBase b :: bBk b f rv :: litB :: lasB f b.types.length i :: X)
set_option maxHeartbeats 4000000 in
theorem l105 (b : Base) (f : List Item) (hr : Right b f) (H : Heap) (st : St)
    (hE : keepEnv st.1 [2, 5, 6, 20, 21, 22] = [(2, .ptr H.length 0 4 0 0), (5, .ptr (H.length + 1) 0 6 0 0), (6, .ref (H.length + 3) 0 1 0 b.types.length), (20, eItems f), (21, .int .i64 (f.length : Int)), (22, .int .i64 0)]) (hH : st.2 = opH b f H 0 .nils [])
    (z : Option (CX × St)) (hz : itLim (evCode (evC cprog) itLim c105_l0) st = z) : ∃ T rv X, z = some (.exit 0, T, opH b f H f.length rv X) ∧ keepEnv T [5] = [(5, .ptr (H.length + 1) 0 6 0 0)] ∧ Out (H.length + 4) 1 3 X rv ((parL b f f.length).map rI) := by
  have hfl := hr.len
  have L := loop_rule (σ := Nat × Heap × AV) (m := [2, 5, 6, 20, 21, 22]) (env := fun s => [(2, .ptr H.length 0 4 0 0), (5, .ptr (H.length + 1) 0 6 0 0), (6, .ref (H.length + 3) 0 1 0 b.types.length), (20, eItems f), (21, .int .i64 (f.length : Int)), (22, .int .i64 (s.1 : Int))]) (hp := fun s => opH b f H s.1 s.2.2 s.2.1)
    (P := fun _ r => ∃ T rv X, r = (.exit 0, T, opH b f H f.length rv X) ∧ keepEnv T [5] = [(5, .ptr (H.length + 1) 0 6 0 0)] ∧ Out (H.length + 4) 1 3 X rv ((parL b f f.length).map rI))
    (mu := fun s => f.length - s.1) (I := fun s => s.1 ≤ f.length ∧ Out (H.length + 4) 1 3 s.2.1 s.2.2 ((parL b f s.1).map rI)) (evCode (evC cprog) itLim c105_l0) ?_ (0, [], .nils) st ⟨Nat.zero_le _, .nils ..⟩ hE hH z hz
  · obtain ⟨_, rfl, T, rv, X, rfl, h1, h2⟩ := L
    exact ⟨T, rv, X, rfl, h1, h2⟩
  · rintro ⟨i, X, rv⟩ ⟨hi, hO⟩ E hE
    simp only at hi hO hE
    by_cases hlt : i < f.length
    · obtain ⟨x, k, t, hx, hk, hkl, ht, _⟩ := hr.item hlt
      have hil : (i : Int) < (f.length : Int) := by omega
      have ha := aItem hx
      have hat := aTy ht
      rw [← hk] at hat
      have hw := wrapS hlt (by omega)
      have hty : typ f (i : Int) = (k : Int) := by rw [typ_at hx, hk]
      have hO2 := hO.more [⟨0, true, 55, 2, [rItem x]⟩, ⟨0, true, 3, 1, [[.int .i64 (par b.types f i)]]⟩]
      obtain ⟨rv1, X1, a1, t1, O1, hkp, _⟩ := hO2.app2 (H ++ [bBase b, bBk b f rv, litB, lasB f b.types.length i]) (by simp) 8 (.ref (H.length + (X.length + 5)) 0 1 0 1) [rI (par b.types f i)] (by
        have : (H ++ [bBase b, bBk b f rv, litB, lasB f b.types.length i] ++ (X ++ [(⟨0, true, 55, 2, [rItem x]⟩ : Blk), ⟨0, true, 3, 1, [[.int .i64 (par b.types f i)]]⟩]))[H.length + (X.length + 5)]? = some ⟨0, true, 3, 1, [[.int .i64 (par b.types f i)]]⟩ := by
          rw [show H.length + (X.length + 5) = (H ++ [bBase b, bBk b f rv, litB, lasB f b.types.length i]).length + (X.length + 1) by simp; omega, at_app, at_app]; rfl
        simp [srcRows, rowsOf, curBlk, this, rI]) (by simp [rI]) (by simp) (by simp [reach, parL]; omega)
      have hX1 : X1[X.length]? = some ⟨0, true, 55, 2, [rItem x]⟩ := hkp X.length _ (by simp) (out_oblk hO)
      rw [← List.map_singleton, ← List.map_append, ← parL_step] at O1
      have hrc := out_cells O1
      have hls := lasL_step hty hkl
      have hsx : asNat (.int .i64 x.type) = some k := by rw [hk]; exact asNat_cast .i64 k
      have hset : ((lasL f b.types.length i).map rI).length = b.types.length := by simp [lasL]
      obtain ⟨old, hold⟩ : ∃ old, ((lasL f b.types.length i).map rI)[k]? = some [old] := ⟨.int .i64 (lastTo f (k : Int) i), by rw [List.getElem?_map, lasL_at hkl]; rfl⟩
      simp only [opH, bBk, bBase, litB, lasB, List.append_assoc, List.cons_append, List.nil_append, rItem] at a1 hX1 ⊢
      rcases hr.par hx hk ht with ⟨h1, h2, _⟩ | ⟨p, h1, h2, h3, h4, h5, h6⟩
      · have n0 : ¬ 0 ≤ t.parent := by omega
        rw [h2] at a1
        simp only [c105_l0, nilck_ptr, hE, hil, ha, hat, rItem, rTy, n0, a1, t1, hrc, hX1, hsx, hkl, hold, hls, hw, evX, Int.reduceEq, Int.reduceLT, Int.reduceLE, Nat.reduceMul, Nat.reduceMod, evW, fn_eq, evR, Nat.reduceAdd, Nat.reduceLT, Nat.reduceLeDiff, reduceIte, Nat.reduceEqDiff, reduceCtorEq, argEnv, eq_self, if_true, if_false]
        exact q_next (i + 1, X1, rv1) (by rfl) rfl ⟨hlt, O1⟩ (by simp only; omega) fun r h => h
      · obtain ⟨m, hm⟩ : ∃ m : Nat, t.parent = (m : Int) := ⟨t.parent.toNat, by omega⟩
        have hml : m < b.types.length := by omega
        have hla : ((lasL f b.types.length i).map rI)[m]? = some [.int .i64 (par b.types f i)] := by
          rw [List.getElem?_map, lasL_at hml]
          have e : par b.types f i = lastTo f (m : Int) i := by unfold par; rw [hty, tpar_at ht, hm, if_neg (by omega)]
          rw [e]; rfl
        have n0 : 0 ≤ t.parent := by omega
        have hpx : asNat (.int .i64 t.parent) = some m := by rw [hm]; exact asNat_cast .i64 m
        generalize par b.types f i = pi at *
        simp only [c105_l0, nilck_ptr, hE, hil, ha, hat, rItem, rTy, n0, hpx, hml, hla, a1, t1, hrc, hX1, hsx, hkl, hold, hls, hw, evX, Int.reduceEq, Int.reduceLT, Int.reduceLE, Nat.reduceMul, Nat.reduceMod, evW, fn_eq, evR, Nat.reduceAdd, Nat.reduceLT, Nat.reduceLeDiff, reduceIte, Nat.reduceEqDiff, reduceCtorEq, argEnv, eq_self, if_true, if_false]
        exact q_next (i + 1, X1, rv1) (by rfl) rfl ⟨hlt, O1⟩ (by simp only; omega) fun r h => h
    · have hil : ¬ (i : Int) < (f.length : Int) := by omega
      have : i = f.length := by omega
      subst this
      simp only [c105_l0, hE, hil, evX, Int.reduceEq, Int.reduceLT, Int.reduceLE, Nat.reduceMul, Nat.reduceMod, evW, fn_eq, evR, Nat.reduceAdd, Nat.reduceLT, Nat.reduceLeDiff, reduceIte, Nat.reduceEqDiff, reduceCtorEq, argEnv, eq_self, if_true, if_false]
      exact q_exit ⟨_, rv, X, rfl, by rfl, hO⟩
theorem o105 (b : Base) (f : List Item) (hr : Right b f) (H : Heap) : ∃ rv X, cal (evC cprog) false 105 [eBase b, eItems f] H = some (.ptr (H.length + 1) 0 6 0 0, opH b f H f.length rv X) ∧ Out (H.length + 4) 1 3 X rv ((parL b f f.length).map rI) := by
  rw [cal_of at105]
  have hb := hr.base
  have hls := hb.lens hr.valid
  have h0 : 0 < b.types.length := by
    have := hr.valid
    simp only [validB, areTys, Bool.and_eq_true, decide_eq_true_eq] at this
    omega
  have hlen := (sTys [] b.types).len
  have hfl := (sItems [] f).len
  simp only [List.length_map] at hlen hfl
  have h136 := f136 b.types.length h0 (by omega) (H.length + 2) (H ++ [bBase b, bBk b f .nils, litB]) (by simp [litB])
  have hz0 := lasL_zero f b.types.length
  simp only [bBase, bBk, litB, List.length_append, List.length_cons, List.length_nil, Nat.zero_add, Nat.reduceAdd, List.append_assoc, List.cons_append, List.nil_append] at h136
  rw [← hz0] at h136
  simp only [c105, eBase, hlen, hfl, h136, cells_eItems, isTup_eItems, evX, Int.reduceEq, Int.reduceLT, Int.reduceLE, Nat.reduceMul, Nat.reduceMod, evW, fn_eq, evR, Nat.reduceAdd, Nat.reduceLT, Nat.reduceLeDiff, reduceIte, Nat.reduceEqDiff, reduceCtorEq, argEnv, eq_self, if_true, if_false]
  generalize hz : itLim _ _ = z
  obtain ⟨T, rv, X, rfl, hT, hO⟩ := l105 b f hr H _ (by rfl) (by simp only [opH, bBk, bBase, litB, lasB]) z hz
  refine ⟨rv, X, ?_, hO⟩
  simp only [hT, noRef_ptr, opH, evX, Int.reduceEq, Int.reduceLT, Int.reduceLE, Nat.reduceMul, Nat.reduceMod, evW, fn_eq, evR, Nat.reduceAdd, Nat.reduceLT, Nat.reduceLeDiff, reduceIte, Nat.reduceEqDiff, reduceCtorEq, argEnv, eq_self, if_true, if_false]
end Go.Proofs.YtbdpceigmnpoaaaGreatDoor.Code

/- call: what the book answers: on, when, fit, fits, satisfies, search. -/
set_option linter.unusedSimpArgs false
set_option linter.unusedVariables false
namespace Go.Proofs.YtbdpceigmnpoaaaGreatDoor.Code
open Go.Proofs.YtbdpceigmnpoaaaGreatDoor.Ev

theorem Bk.open {b : Base} {f : List Item} {p : Nat} {K : Heap} (h : Bk b f p K) : ∃ pv, (∀ X, (K ++ X)[p]? = some ⟨0, true, 149, 6, [[.str b.name, .int .i64 b.kind, eTys b.types, eSes b.indexes, eItems f, pv]]⟩) ∧ K[p]? = some ⟨0, true, 149, 6, [[.str b.name, .int .i64 b.kind, eTys b.types, eSes b.indexes, eItems f, pv]]⟩ ∧
    ∀ i : Nat, i < f.length → ∃ q, iaddrK 1 (some pv) (some (.int .i64 (i : Int))) = some q ∧ (∀ X, loadK false 1 (K ++ X) (some q) = some (.int .i64 (par b.types f i))) ∧ loadK false 1 K (some q) = some (.int .i64 (par b.types f i)) := by
  obtain ⟨pv, h1, h2⟩ := h
  refine ⟨pv, fun X => h1 X, h1.at, fun i hi => ?_⟩
  obtain ⟨q, g1, g2⟩ := slI h2 (parL_at (b := b) hi)
  exact ⟨q, g1, g2, by simpa using g2 []⟩
theorem Bk.app {b : Base} {f : List Item} {p : Nat} {K : Heap} (h : Bk b f p K) (X : Heap) : Bk b f p (K ++ X) := by
  obtain ⟨pv, h1, h2⟩ := h
  exact ⟨pv, fun Y => by rw [List.append_assoc]; exact h1 _, h2.app X⟩
theorem item_fits {b : Base} {f : List Item} (hr : Right b f) {i : Nat} {x : Item} {k : Nat} (hx : f[i]? = some x) (hk : x.type = (k : Int)) : fits b.types ⟨(k : Int), x.data⟩ = true := by
  have := hr.fits i x hx
  rw [← hk]; exact this
end Go.Proofs.YtbdpceigmnpoaaaGreatDoor.Code

/- call: fits, satisfies and search of the book. -/
set_option linter.unusedSimpArgs false
set_option linter.unusedVariables false
namespace Go.Proofs.YtbdpceigmnpoaaaGreatDoor.Code
open Go.Proofs.YtbdpceigmnpoaaaGreatDoor.Ev

/-- a right argument -/
structure ArOk (ts : List Ty) (a : Ar) : Prop where
  ok : a.Ok
  ty : 0 ≤ tyIx ts a.seg
  cnd : cndOk (fdsOf ts (tyIx ts a.seg)) a.whn = true
theorem tysA_at {ts : List Ty} {l : List Ar} {k : Nat} {a : Ar} (h : l[k]? = some a) : (tysA ts l)[k]? = some (tyIx ts a.seg) := by simp [tysA, h]
end Go.Proofs.YtbdpceigmnpoaaaGreatDoor.Code

/- call: paths and answers of the book. -/
set_option linter.unusedSimpArgs false
set_option linter.unusedVariables false
namespace Go.Proofs.YtbdpceigmnpoaaaGreatDoor.Code
open Go.Proofs.YtbdpceigmnpoaaaGreatDoor.Ev

theorem f108 (b : Base) (f : List Item) (hr : Right b f) (p : Nat) (K : Heap) (hk : Bk b f p K) (i : Nat) (hi : i < f.length) : cal (evC cprog) true 108 [.ptr p 0 6 0 0, .int .i64 (i : Int)] K = some (eIs (pth b.types f i), K) := by
  rw [cal_of at108]
  have hfl := hr.len
  obtain ⟨pv, hp, _, hq⟩ := hk.open
  have kt : ∀ Z, (K ++ Z).take K.length = K := fun Z => by simp
  have L := fun (st : St) (hE : keepEnv st.1 [0, 1, 5] = [(0, .ptr p 0 6 0 0), (1, .int .i64 (i : Int)), (5, .nils)]) (hH : st.2 = K) (z : Option (CX × St)) (hz : itLim (evCode (evC cprog) itLim c108_l0) st = z) =>
    loop_rule (σ := Int × List Int × Heap × AV) (m := [0, 1, 5]) (env := fun s => [(0, .ptr p 0 6 0 0), (1, .int .i64 s.1), (5, s.2.2.2)]) (hp := fun s => K ++ s.2.2.1)
    (P := fun _ r => ∃ T X rv, r = (.exit 0, T, K ++ X) ∧ keepEnv T [5] = [(5, rv)] ∧ Out K.length 1 3 X rv ((pth b.types f i).reverse.map rI))
    (mu := fun s => (s.1 + 1).toNat) (I := fun s => Walks b f i s.1 s.2.1 ∧ Out K.length 1 3 s.2.2.1 s.2.2.2 (s.2.1.reverse.map rI)) (evCode (evC cprog) itLim c108_l0) (by
      intro ⟨c, acc, X, rv⟩ ⟨w, hO⟩ E hE
      simp only at w hO hE ⊢
      have h1 := w.lo
      have h2 := w.hi
      have h3 := w.len
      by_cases hc : 0 ≤ c
      · obtain ⟨c, rfl⟩ : ∃ k : Nat, c = (k : Int) := ⟨c.toNat, by omega⟩
        obtain ⟨q, q1, q2, _⟩ := hq c (by omega)
        have w2 := w.step
        obtain ⟨rv1, X1, a1, t1, O1⟩ := (hO.more [⟨0, true, 3, 1, [[.int .i64 (c : Int)]]⟩]).app K rfl 8 (.ref (K.length + X.length) 0 1 0 1) [rI (c : Int)] (by simp [srcRows, rowsOf, curBlk, ← List.append_assoc, rI]) (by simp [rI]) (by simp [reach]; omega)
        have hra : acc.reverse.map rI ++ [rI (c : Int)] = ((c : Int) :: acc).reverse.map rI := by simp
        rw [hra] at O1
        have hpl := par_lt b.types f c
        simp only [c108_l0, nilck_ptr, hE, hc, hp, q1, q2, a1, t1, evX, Int.reduceEq, Int.reduceLT, Int.reduceLE, Nat.reduceMul, Nat.reduceMod, evW, fn_eq, evR, Nat.reduceAdd, Nat.reduceLT, Nat.reduceLeDiff, reduceIte, Nat.reduceEqDiff, reduceCtorEq, argEnv, eq_self, if_true, if_false]
        exact q_next (par b.types f c, (c : Int) :: acc, X1, rv1) (by rfl) rfl ⟨w2, O1⟩ (by simp only; omega) fun r h => h
      · simp only [c108_l0, nilck_ptr, hE, hc, evX, Int.reduceEq, Int.reduceLT, Int.reduceLE, Nat.reduceMul, Nat.reduceMod, evW, fn_eq, evR, Nat.reduceAdd, Nat.reduceLT, Nat.reduceLeDiff, reduceIte, Nat.reduceEqDiff, reduceCtorEq, argEnv, eq_self, if_true, if_false]
        rw [w.last (by omega)] at hO
        exact q_exit ⟨_, X, rv, rfl, by rfl, hO⟩) ((i : Int), [], [], .nils) st ⟨⟨by omega, by omega, by rw [pthI_nat, List.append_nil], by simp; omega⟩, .nils ..⟩ hE (by simpa using hH) z hz
  simp only [c108, evX, Int.reduceEq, Int.reduceLT, Int.reduceLE, Nat.reduceMul, Nat.reduceMod, evW, fn_eq, evR, Nat.reduceAdd, Nat.reduceLT, Nat.reduceLeDiff, reduceIte, Nat.reduceEqDiff, reduceCtorEq, argEnv, eq_self, if_true, if_false]
  generalize hz : itLim _ _ = z
  obtain ⟨_, rfl, T, X, rv, rfl, hT, hO⟩ := L _ (by rfl) rfl z hz
  clear hz L
  have hne : pth b.types f i ≠ [] := fun e => by have := pth_self b.types f i; rw [e] at this; cases this
  have hpl := fk_len hr hi
  obtain ⟨Z, ids, h138, hsc, hs2, g1, g2, ht⟩ := rev_out hO hne (by omega) kt (Nat.le_refl _)
  generalize K ++ X = Y at *
  simp only [hT, h138, hsc, evX, Int.reduceEq, Int.reduceLT, Int.reduceLE, Nat.reduceMul, Nat.reduceMod, evW, fn_eq, evR, Nat.reduceAdd, Nat.reduceLT, Nat.reduceLeDiff, reduceIte, Nat.reduceEqDiff, reduceCtorEq, argEnv, eq_self, if_true, if_false]
  exact frz_one g1 hs2 ht g2

/-! the answer -/
/-- arguments with their types, without the last -/
def zArs (ts : List Ty) (l : List Ar) : List (Int × Ar) := (l.take (l.length - 1)).map fun a => (tyIx ts a.seg, a)
def datL (b : Base) (f : List Item) (l : List Ar) (i : Nat) : List ByteArray := (pth b.types f i).flatMap (selP f (zArs b.types l))
def ansB (b : Base) (f : List Item) (l : List Ar) (i : Nat) : An :=
  ⟨sWell, (tyOf b.types (typ f (i : Int))).name, ((pth b.types f i).length : Int), ⟨(keyU (fkL b f i)).toArray⟩, catL ⟨#[]⟩ (datL b f l i ++ [dat f (i : Int)])⟩
theorem catL_app : ∀ (l m : List ByteArray) (s : ByteArray), catL s (l ++ m) = catL (catL s l) m
  | [], _, _ => rfl
  | x :: l, m, s => catL_app l m (s ++ x)
theorem catL_size : ∀ (l : List ByteArray) (s : ByteArray) (n : Nat), (∀ x ∈ l, x.size ≤ n) → (catL s l).size ≤ s.size + l.length * n
  | [], _, _, _ => by simp [catL]
  | x :: l, s, n, h => by
    have h1 := h x (by simp)
    have h2 := catL_size l (s ++ x) n fun y hy => h y (by simp [hy])
    rw [ByteArray.size_append] at h2
    rw [catL, List.length_cons, Nat.succ_mul]
    omega
/-- the place of a type among the arguments' -/
theorem sel_at {ts : List Ty} {l : List Ar} (f : List Item) (a : Int) : (∃ (k : Nat) (x : Ar), idxOf (fun y => decide (typ f a = y)) (tysA ts l) = (k : Int) ∧ k < l.length - 1 ∧ l[k]? = some x ∧ selP f (zArs ts l) a = if hasC x 68 = true then [dat f a] else []) ∨
    (idxOf (fun y => decide (typ f a = y)) (tysA ts l) < 0 ∧ selP f (zArs ts l) a = []) ∨ ∃ k : Nat, idxOf (fun y => decide (typ f a = y)) (tysA ts l) = (k : Int) ∧ k < l.length ∧ l.length - 1 ≤ k ∧ selP f (zArs ts l) a = [] := by
  have hz : ∀ m : Nat, ∀ z ∈ (l.take m).map (fun a => (tyIx ts a.seg, a)), z.1 ∈ tysA ts l := fun m z hz => by
    obtain ⟨x, hx, rfl⟩ := List.mem_map.1 hz
    exact List.mem_map.2 ⟨x, List.mem_of_mem_take hx, rfl⟩
  rcases idxOf_find (fun y => decide (typ f a = y)) (tysA ts l) with ⟨h1, h2⟩ | ⟨k, t, h1, h2, h3, h4⟩
  · refine .inr (.inl ⟨by omega, ?_⟩)
    unfold selP
    rw [List.find?_eq_none.2]
    intro z hz'
    have := List.find?_eq_none.1 h2 _ (hz _ z hz')
    simp only [decide_eq_true_eq] at this ⊢
    exact fun e => this e.symm
  · have hk : k < l.length := by have := (List.getElem?_eq_some_iff.1 h2).1; simpa [tysA] using this
    obtain ⟨x, hx⟩ : ∃ x, l[k]? = some x := ⟨_, List.getElem?_eq_getElem hk⟩
    have htx : tyIx ts x.seg = t := by rw [tysA_at hx] at h2; simpa using h2
    have hta : typ f a = t := by simpa using h4
    have first : ∀ j : Nat, j < k → ∀ y, l[j]? = some y → tyIx ts y.seg ≠ typ f a := fun j hj y hy e => by
      have e1 : idxOf (fun y => decide (typ f a = y)) (tysA ts l) ≤ (j : Int) := by
        unfold idxOf
        cases hf : (tysA ts l).findIdx? fun y => decide (typ f a = y) with
        | none => simp only; omega
        | some m =>
          have := List.findIdx?_eq_some_iff_getElem.1 hf
          obtain ⟨_, _, h⟩ := this
          simp only
          apply Classical.byContradiction
          intro hc
          have := h j (by omega)
          have hyj := tysA_at (ts := ts) hy
          rw [List.getElem?_eq_getElem (by have := (List.getElem?_eq_some_iff.1 hy).1; simpa [tysA] using this)] at hyj
          simp only [Option.some.injEq] at hyj
          rw [hyj] at this
          simp [e] at this
      omega
    by_cases hkn : k < l.length - 1
    · refine .inl ⟨k, x, h1, hkn, hx, ?_⟩
      have hf : (zArs ts l).find? (fun z => decide (z.1 = typ f a)) = some (tyIx ts x.seg, x) := by
        rw [List.find?_eq_some_iff_getElem]
        refine ⟨by simp [htx, hta], k, by simp [zArs]; omega, ?_, fun j hj => ?_⟩
        · simp only [zArs, List.getElem_map, List.getElem_take]
          rw [List.getElem?_eq_getElem hk] at hx
          simp only [Option.some.injEq] at hx
          rw [hx]
        · have hjl : j < l.length := by omega
          have := first j hj _ (List.getElem?_eq_getElem hjl)
          simpa [zArs] using this
      unfold selP
      rw [hf]
    · refine .inr (.inr ⟨k, h1, hk, by omega, ?_⟩)
      unfold selP
      rw [List.find?_eq_none.2]
      intro z hz'
      obtain ⟨y, hy, rfl⟩ := List.mem_map.1 hz'
      obtain ⟨j, hj⟩ := List.getElem?_of_mem hy
      rw [List.getElem?_take] at hj
      split at hj
      · have := first j (by omega) y hj
        simpa using this
      · cases hj
theorem dat_small {b : Base} {f : List Item} (hr : Right b f) {i : Nat} (hi : i < f.length) : (dat f (i : Int)).size ≤ 1000 := by
  obtain ⟨x, k, t, hx, _, _, _, hty, _, h⟩ := hr.item hi
  rw [dat_at hx]
  simp only [tyOk, Bool.and_eq_true, sizeOk, decide_eq_true_eq] at hty
  omega
theorem rowBytes_U : ∀ p : List UInt8, rowBytes (p.map rU) = some p
  | [] => rfl
  | n :: p => by simp [rowBytes, rU, rowBytes_U p]
theorem b2s_U (H : Heap) (l : List UInt8) : b2sK H (some (eU l)) = some (.str ⟨l.toArray⟩) := by
  simp only [b2sK, eU, rowsOf, rowBytes_U]; rfl
theorem selP_one (f : List Item) (Z : List (Int × Ar)) (m : List Int) : (m.flatMap (selP f Z)).length ≤ m.length := by
  induction m with
  | nil => simp
  | cons c m ih =>
    rw [List.flatMap_cons, List.length_append, List.length_cons]
    have : (selP f Z c).length ≤ 1 := by
      unfold selP
      split
      · split <;> simp
      · simp
    omega
theorem selP_size {b : Base} {f : List Item} (hr : Right b f) {i : Nat} (hi : i < f.length) (Z : List (Int × Ar)) (j : Nat) : (catL ⟨#[]⟩ (((pth b.types f i).take j).flatMap (selP f Z))).size ≤ 1000000 := by
  have hpl := fk_len hr hi
  have h7 := catL_size (((pth b.types f i).take j).flatMap (selP f Z)) ⟨#[]⟩ 1000 fun x hx => by
    obtain ⟨a, ha, hxa⟩ := List.mem_flatMap.1 hx
    have hb := pth_bound (List.mem_of_mem_take ha)
    obtain ⟨j, rfl⟩ : ∃ j : Nat, a = (j : Int) := ⟨a.toNat, by omega⟩
    unfold selP at hxa
    split at hxa
    · split at hxa
      · simp only [List.mem_singleton] at hxa
        rw [hxa]; exact dat_small hr (by omega)
      · cases hxa
    · cases hxa
  have h8 := selP_one f Z ((pth b.types f i).take j)
  rw [List.length_take] at h8
  have e0 : (⟨#[]⟩ : ByteArray).size = 0 := rfl
  rw [e0] at h7
  have : (((pth b.types f i).take j).flatMap (selP f Z)).length * 1000 ≤ 5000 := by omega
  omega
def bAn0 : Blk := ⟨0, true, 49, 5, [[.str ⟨#[]⟩, .str ⟨#[]⟩, .int .i64 0, .str ⟨#[]⟩, .str ⟨#[]⟩]]⟩
set_option maxHeartbeats 8000000 in
theorem l70 (b : Base) (f : List Item) (hr : Right b f) (p : Nat) (K1 : Heap) (hk : Bk b f p K1) (l : List Ar) (hl : l.length < 9223372036854775807) (av ta : AV) (hav : av = eArs l ∨ l = []) (hlen : lenK false (some av) = some (.int .i64 (l.length : Int))) (hta : ∀ H, SlAt H 1 ta ((tysA b.types l).map rI)) (i : Nat) (hi : i < f.length) (n0 : Nat) (st : St)
    (hE : keepEnv st.1 [0, 1, 2, 3, 8, 9, 10, 11, 21, 22, 23] = [(0, .ptr p 0 6 0 0), (1, av), (2, ta), (3, .int .i64 (i : Int)), (8, .ptr n0 0 5 0 0), (9, .nils), (10, .str ⟨#[]⟩), (11, eIs (pth b.types f i)), (21, eIs (pth b.types f i)), (22, .int .i64 ((pth b.types f i).length : Int)), (23, .int .i64 0)]) (hH : st.2 = K1) (z : Option (CX × St)) (hz : itLim (evCode (evC cprog) itLim c70_l0) st = z) :
    ∃ T X rv, z = some (.exit 0, T, K1 ++ X) ∧ keepEnv T [0, 3, 8, 9, 10, 11] = [(0, .ptr p 0 6 0 0), (3, .int .i64 (i : Int)), (8, .ptr n0 0 5 0 0), (9, rv), (10, .str (catL ⟨#[]⟩ (datL b f l i))), (11, eIs (pth b.types f i))] ∧ Out K1.length 1 9 X rv ((fkL b f i).map rS) := by
  have hpl := fk_len hr hi
  have hfl := hr.len
  obtain ⟨pv, kp, _, _⟩ := hk.open
  have L := loop_rule (σ := Nat × Heap × AV) (m := [0, 1, 2, 3, 8, 9, 10, 11, 21, 22, 23]) (env := fun s => [(0, .ptr p 0 6 0 0), (1, av), (2, ta), (3, .int .i64 (i : Int)), (8, .ptr n0 0 5 0 0), (9, s.2.2), (10, .str (catL ⟨#[]⟩ (((pth b.types f i).take s.1).flatMap (selP f (zArs b.types l))))), (11, eIs (pth b.types f i)), (21, eIs (pth b.types f i)), (22, .int .i64 ((pth b.types f i).length : Int)), (23, .int .i64 (s.1 : Int))]) (hp := fun s => K1 ++ s.2.1)
    (P := fun _ r => ∃ T X rv, r = (.exit 0, T, K1 ++ X) ∧ keepEnv T [0, 3, 8, 9, 10, 11] = [(0, .ptr p 0 6 0 0), (3, .int .i64 (i : Int)), (8, .ptr n0 0 5 0 0), (9, rv), (10, .str (catL ⟨#[]⟩ (datL b f l i))), (11, eIs (pth b.types f i))] ∧ Out K1.length 1 9 X rv ((fkL b f i).map rS))
    (mu := fun s => (pth b.types f i).length - s.1) (I := fun s => s.1 ≤ (pth b.types f i).length ∧ Out K1.length 1 9 s.2.1 s.2.2 ((((pth b.types f i).take s.1).map (keyA b f)).map rS)) (evCode (evC cprog) itLim c70_l0) ?_ (0, [], .nils) st ⟨Nat.zero_le _, .nils ..⟩ (by simpa [catL] using hE) (by simpa using hH) z hz
  · obtain ⟨_, rfl, T, X, rv, rfl, h1, h2⟩ := L
    exact ⟨T, X, rv, rfl, h1, h2⟩
  · rintro ⟨j, X, rv⟩ ⟨hj, hO⟩ E hE
    simp only at hj hO hE ⊢
    by_cases hlt : j < (pth b.types f i).length
    · obtain ⟨a, ha⟩ : ∃ a, (pth b.types f i)[j]? = some a := ⟨_, List.getElem?_eq_getElem hlt⟩
      have hjl : (j : Int) < ((pth b.types f i).length : Int) := by omega
      have hai := aI ha
      have hw := wrapS hlt (by omega)
      obtain ⟨n, x, k, t, rfl, hni, h1, h2, h3, h4, h5, h6⟩ := fk_at hr hi (List.mem_of_getElem? ha)
      have hax := aItem h1
      have hdx := dat_at h1
      have h109 := f109 b hr.base hr.valid k t h3 h4 x.data (item_fits hr h1 h2)
      have hO2 := hO.more [⟨0, true, 55, 2, [rItem x]⟩, ⟨0, true, 9, 1, [[.str (keyOf t x.data)]]⟩]
      obtain ⟨rv1, X1, a1, t1, O1, hkp, _⟩ := hO2.app2 K1 rfl 16 (.ref (K1.length + (X.length + 1)) 0 1 0 1) [rS (keyOf t x.data)] (by simp [srcRows, rowsOf, curBlk, at_app, rS]) (by simp [rS]) (by simp) (by simp [reach]; omega)
      have hX1 : X1[X.length]? = some ⟨0, true, 55, 2, [rItem x]⟩ := hkp X.length _ (by simp) (out_oblk hO)
      have hra : (((pth b.types f i).take j).map (keyA b f)).map rS ++ [rS (keyOf t x.data)] = (((pth b.types f i).take (j + 1)).map (keyA b f)).map rS := by
        rw [List.take_add_one, ha]; simp [h6]
      rw [hra] at O1
      have hst : catL ⟨#[]⟩ (((pth b.types f i).take (j + 1)).flatMap (selP f (zArs b.types l))) = catL (catL ⟨#[]⟩ (((pth b.types f i).take j).flatMap (selP f (zArs b.types l)))) (selP f (zArs b.types l) (n : Int)) := by
        rw [List.take_add_one, ha, List.flatMap_append, catL_app]; simp
      have hcs := selP_size hr hi (zArs b.types l) j
      have hds := dat_small hr (i := n) (by omega)
      rw [hdx] at hds
      generalize catL ⟨#[]⟩ (((pth b.types f i).take j).flatMap (selP f (zArs b.types l))) = S at *
      have hsz : S.size + x.data.size ≤ 9223372036854775807 := by omega
      have h110 := fun H => f110 x.type H ta (tysA b.types l) (hta H) (by simp [tysA]; omega)
      have htn := typ_at h1
      rw [← htn] at h110
      rw [← h2, ← htn] at h109
      simp only [eBase, rS] at h109 a1
      simp only [rItem, ← htn] at hax a1 hX1
      rcases sel_at (ts := b.types) (l := l) f (n : Int) with ⟨m, y, m1, m2, m3, m4⟩ | ⟨m1, m4⟩ | ⟨m, m1, m2, m3, m4⟩
      · have hm0 : (0 : Int) ≤ (m : Int) := by omega
        have hm1 : (m : Int) < ((l.length - 1 : Nat) : Int) := by omega
        have hwl : IntKind.i64.wrap ((l.length : Int) - 1) = ((l.length - 1 : Nat) : Int) := by rw [wrap_i64 (by omega) (by omega)]; omega
        have hay := aAr m3
        have hav' : av = eArs l := by
          rcases hav with h | h
          · exact h
          · rw [h] at m3; simp at m3
        subst hav'
        rw [m1] at h110
        have h111 : ∀ H, cal (evC cprog) false 111 [.agg (rAr y), .int .u8 68] H = some (.bool (hasC y 68), H) := fun H => f111 y 68 H
        simp only [rAr] at h111
        cases hD : hasC y 68 with
        | true =>
          rw [hD] at h111
          rw [hD, if_pos rfl, hdx] at m4
          rw [m4] at hst
          generalize typ f (n : Int) = ty at *
          simp only [c70_l0, nilck_ptr, hE, hjl, hai, rI, kp, hax, h109, a1, t1, hX1, h110, hm0, hlen, hwl, hm1, hay, rAr, h111, hsz, hw, evX, Int.reduceEq, Int.reduceLT, Int.reduceLE, Nat.reduceMul, Nat.reduceMod, evW, fn_eq, evR, Nat.reduceAdd, Nat.reduceLT, Nat.reduceLeDiff, reduceIte, Nat.reduceEqDiff, reduceCtorEq, argEnv, eq_self, if_true, if_false]
          exact q_next (j + 1, X1, rv1) (by simp only [hst]; rfl) rfl ⟨hlt, O1⟩ (by simp only; omega) fun r h => h
        | false =>
          rw [hD] at h111
          rw [hD, if_neg (by decide)] at m4
          rw [m4] at hst
          generalize typ f (n : Int) = ty at *
          simp only [c70_l0, nilck_ptr, hE, hjl, hai, rI, kp, hax, h109, a1, t1, hX1, h110, hm0, hlen, hwl, hm1, hay, rAr, h111, hw, evX, Int.reduceEq, Int.reduceLT, Int.reduceLE, Nat.reduceMul, Nat.reduceMod, evW, fn_eq, evR, Nat.reduceAdd, Nat.reduceLT, Nat.reduceLeDiff, reduceIte, Nat.reduceEqDiff, reduceCtorEq, argEnv, eq_self, if_true, if_false]
          exact q_next (j + 1, X1, rv1) (by simp only [hst]; rfl) rfl ⟨hlt, O1⟩ (by simp only; omega) fun r h => h
      · have hm0 : (0 ≤ idxOf (fun y => decide (typ f (n : Int) = y)) (tysA b.types l)) = False := eq_false (by omega)
        rw [m4] at hst
        generalize idxOf (fun y => decide (typ f (n : Int) = y)) (tysA b.types l) = m at *
        generalize typ f (n : Int) = ty at *
        simp only [c70_l0, nilck_ptr, hE, hjl, hai, rI, kp, hax, h109, a1, t1, hX1, h110, hm0, hw, evX, Int.reduceEq, Int.reduceLT, Int.reduceLE, Nat.reduceMul, Nat.reduceMod, evW, fn_eq, evR, Nat.reduceAdd, Nat.reduceLT, Nat.reduceLeDiff, reduceIte, Nat.reduceEqDiff, reduceCtorEq, argEnv, eq_self, if_true, if_false]
        exact q_next (j + 1, X1, rv1) (by simp only [hst]; rfl) rfl ⟨hlt, O1⟩ (by simp only; omega) fun r h => h
      · have hm0 : (0 : Int) ≤ (m : Int) := by omega
        have hm1 : ¬ (m : Int) < ((l.length - 1 : Nat) : Int) := by omega
        have hwl : IntKind.i64.wrap ((l.length : Int) - 1) = ((l.length - 1 : Nat) : Int) := by rw [wrap_i64 (by omega) (by omega)]; omega
        rw [m1] at h110
        rw [m4] at hst
        generalize typ f (n : Int) = ty at *
        simp only [c70_l0, nilck_ptr, hE, hjl, hai, rI, kp, hax, h109, a1, t1, hX1, h110, hm0, hlen, hwl, hm1, hw, evX, Int.reduceEq, Int.reduceLT, Int.reduceLE, Nat.reduceMul, Nat.reduceMod, evW, fn_eq, evR, Nat.reduceAdd, Nat.reduceLT, Nat.reduceLeDiff, reduceIte, Nat.reduceEqDiff, reduceCtorEq, argEnv, eq_self, if_true, if_false]
        exact q_next (j + 1, X1, rv1) (by simp only [hst]; rfl) rfl ⟨hlt, O1⟩ (by simp only; omega) fun r h => h
    · have hjl : ¬ (j : Int) < ((pth b.types f i).length : Int) := by omega
      rw [List.take_of_length_le (by omega)] at hO hE
      simp only [c70_l0, nilck_ptr, hE, hjl, evX, Int.reduceEq, Int.reduceLT, Int.reduceLE, Nat.reduceMul, Nat.reduceMod, evW, fn_eq, evR, Nat.reduceAdd, Nat.reduceLT, Nat.reduceLeDiff, reduceIte, Nat.reduceEqDiff, reduceCtorEq, argEnv, eq_self, if_true, if_false]
      exact q_exit ⟨_, X, rv, rfl, by rfl, hO⟩
set_option maxHeartbeats 8000000 in
theorem f70 (b : Base) (f : List Item) (hr : Right b f) (p : Nat) (K : Heap) (hk : Bk b f p K) (l : List Ar) (hl : l.length < 9223372036854775807) (av ta : AV) (hav : av = eArs l ∨ l = []) (hlen : lenK false (some av) = some (.int .i64 (l.length : Int))) (hta : ∀ H, SlAt H 1 ta ((tysA b.types l).map rI)) (i : Nat) (hi : i < f.length) :
    cal (evC cprog) false 70 [.ptr p 0 6 0 0, av, ta, .int .i64 (i : Int)] K = some (eAn (ansB b f l i), K) := by
  rw [cal_of at70]
  have h108 := f108 b f hr p (K ++ [bAn0]) (hk.app _) i hi
  have hplen := (sIs [] (pth b.types f i)).len
  have hpl := fk_len hr hi
  simp only [List.length_map] at hplen
  simp only [bAn0] at h108
  simp only [c70, h108, hplen, evX, Int.reduceEq, Int.reduceLT, Int.reduceLE, Nat.reduceMul, Nat.reduceMod, evW, fn_eq, evR, Nat.reduceAdd, Nat.reduceLT, Nat.reduceLeDiff, reduceIte, Nat.reduceEqDiff, reduceCtorEq, argEnv, eq_self, if_true, if_false]
  generalize hz : itLim _ _ = z
  obtain ⟨T, X, rv, rfl, hT, hO⟩ := l70 b f hr p (K ++ [bAn0]) (hk.app _) l hl av ta hav hlen hta i hi K.length _ (by rfl) (by simp [bAn0]) z hz
  clear hz
  obtain ⟨pv, kp, _, _⟩ := hk.open
  obtain ⟨x, k, t, hx, hk', hkl, ht, _⟩ := hr.item hi
  have hax := aItem hx
  have hat := aTy ht
  rw [← hk'] at hat
  have hdx := dat_at hx
  have hcs : (catL ⟨#[]⟩ (datL b f l i)).size ≤ 1000000 := by
    have := selP_size hr hi (zArs b.types l) (pth b.types f i).length
    rwa [List.take_length] at this
  have hds := dat_small hr hi
  rw [hdx] at hds
  have hsz : (catL ⟨#[]⟩ (datL b f l i)).size + x.data.size ≤ 9223372036854775807 := by omega
  have h112 := f112 rv (fkL b f i) (by simp only [fkL, List.length_map]; omega) (fk_size hr hi) (K ++ ([bAn0] ++ X)) (by rw [← List.append_assoc]; exact out_slS hO (K ++ [bAn0]) rfl)
  have hb2 := fun H => b2s_U H (keyU (fkL b f i))
  have hans : ansB b f l i = ⟨sWell, t.name, ((pth b.types f i).length : Int), ⟨(keyU (fkL b f i)).toArray⟩, catL ⟨#[]⟩ (datL b f l i) ++ x.data⟩ := by
    unfold ansB
    rw [catL_app, hdx, typ_at hx, hk', tyOf_at ht]; rfl
  rw [hans]
  have hsc := out_tup hO
  simp only [bAn0, List.cons_append, List.nil_append] at h112 ⊢
  generalize catL ⟨#[]⟩ (datL b f l i) = S at *
  generalize keyU (fkL b f i) = q at *
  simp only [hT, nilck_ptr, kp, hax, rItem, hat, rTy, hsz, hplen, h112, hb2, evX, Int.reduceEq, Int.reduceLT, Int.reduceLE, Nat.reduceMul, Nat.reduceMod, evW, fn_eq, evR, Nat.reduceAdd, Nat.reduceLT, Nat.reduceLeDiff, reduceIte, Nat.reduceEqDiff, reduceCtorEq, argEnv, eq_self, if_true, if_false]
  rfl
end Go.Proofs.YtbdpceigmnpoaaaGreatDoor.Code

/- call: items on a path, what holds, what satisfies and search, of the document. -/
set_option linter.unusedSimpArgs false
set_option linter.unusedVariables false
namespace Go.Proofs.YtbdpceigmnpoaaaGreatDoor.Code
open Go.Proofs.YtbdpceigmnpoaaaGreatDoor.Ev

end Go.Proofs.YtbdpceigmnpoaaaGreatDoor.Code

/- call: the answer for an item, of the document. -/
set_option linter.unusedSimpArgs false
set_option linter.unusedVariables false
namespace Go.Proofs.YtbdpceigmnpoaaaGreatDoor.Code
open Go.Proofs.YtbdpceigmnpoaaaGreatDoor.Ev

theorem right_err {b : Base} {f : List Item} (R : Right b f) {i : Nat} (hi : i < f.length) : errF b f [(i : Int)] = 0 := by
  unfold errF
  rw [if_pos R.valid, if_pos R.forest, if_neg]
  simp [outOf]
  omega
theorem f22 (b : Base) (f : List Item) (hr : Right b f) (i : Nat) (hi : i < f.length) (H : Heap) : cal (evC cprog) true 22 [eBase b, eItems f, .int .i64 (i : Int)] H = some (.tup [eU (keyU (fkL b f i)), .int .i64 0], H) := by
  rw [cal_of at22]
  have hfl := hr.len
  have h19 := f19 b hr.base f (by omega) (.ref (H.length + 1) 0 1 0 1) [(i : Int)] (by simp) (H ++ [bBase b, bI (i : Int)]) (one_slat H (i : Int) [bBase b])
  rw [right_err hr hi] at h19
  have h51 := f51 b f hr i hi
  have hcu : (eU (keyU (fkL b f i))).cells = [eU (keyU (fkL b f i))] := rfl
  have htu : (eU (keyU (fkL b f i))).isTup = false := rfl
  simp only [eBase, bBase, bI] at h19 h51
  simp only [c22, eBase, h19, h51, hcu, htu, evX, Int.reduceEq, Int.reduceLT, Int.reduceLE, Nat.reduceMul, Nat.reduceMod, evW, fn_eq, evR, Nat.reduceAdd, Nat.reduceLT, Nat.reduceLeDiff, reduceIte, Nat.reduceEqDiff, reduceCtorEq, argEnv, eq_self, if_true, if_false]
  exact calK_frz (ids := []) rfl rfl (by simp) (by simp)
end Go.Proofs.YtbdpceigmnpoaaaGreatDoor.Code

/- call: the first state with a forest, states that are right and the same, of the program and of the document. -/
set_option linter.unusedSimpArgs false
set_option linter.unusedVariables false
namespace Go.Proofs.YtbdpceigmnpoaaaGreatDoor.Code
open Go.Proofs.YtbdpceigmnpoaaaGreatDoor.Ev

/-- the first state with a forest -/
def staF (f : List Item) : Ste := ⟨f, -1, 0, -1, false⟩
def sta0 : Ste := ⟨[], 0, 0, 0, false⟩
/-- the numbers of a state are right -/
def numOk (s : Ste) : Bool :=
  decide (-1 ≤ s.at') && decide (s.at' < (s.items.length : Int)) && decide (0 ≤ s.next) && decide (s.next ≤ (s.items.length : Int)) && decide (-1 ≤ s.parent) && decide (s.parent < (s.items.length : Int)) &&
    (if s.at' < 0 then !s.held else decide (s.next = s.at' + 1))
noncomputable def forE (b : Base) (f : List Item) : Int := if validB b = true then (if forestOk b.types f = true then 0 else 140) else 100
noncomputable def fstS (b : Base) (f : List Item) : Ste := if forE b f = 0 then staF f else sta0
noncomputable def sameS (s t : Ste) : Bool := same s.items t.items && decide (s.at' = t.at') && decide (s.next = t.next) && decide (s.parent = t.parent) && (s.held == t.held)
theorem sameS_self (s : Ste) : sameS s s = true := by
  have : same s.items s.items = true := tell_pos rfl
  simp [sameS, this]
theorem numOk_staF (f : List Item) : numOk (staF f) = true := by
  simp only [numOk, staF, decide_eq_true (show (-1 : Int) ≤ -1 by omega), decide_eq_true (show (-1 : Int) < (f.length : Int) by omega), decide_eq_true (show (0 : Int) ≤ 0 by omega), decide_eq_true (show (0 : Int) ≤ (f.length : Int) by omega), if_pos (show (-1 : Int) < 0 by omega)]; rfl
/-- slices.Clone of items, frozen -/
theorem f45z (f : List Item) (hl : f.length ≤ 1000) (H : Heap) : cal (evC cprog) true 45 [eItems f] H = some (eItems f, H) := by
  cases f with
  | nil =>
    have h := clone_nil (ty := 55) (sz := 2) (bytes := 24) at45 H
    exact cal_frz (ids := []) h rfl rfl (by simp) (by simp)
  | cons y ys =>
    have h := clone_lst (ty := 55) (sz := 2) (bytes := 24) at45 (rItem y) (ys.map rItem) H rfl (by simp [reach] at *; omega)
    obtain ⟨ids, g1, g2⟩ := fz_blk (H := H ++ [⟨0, true, 55, 2, (y :: ys).map rItem⟩]) (b := H.length) (v := 0) (sz := 2) (len := (y :: ys).length) (k := ⟨0, true, 55, 2, (y :: ys).map rItem⟩) (by simp [curBlk]) (rows := (y :: ys).map rItem)
      (by rw [List.take_of_length_le (by simp)]) (plain_items _) 6
    rw [List.length_map] at h
    exact cal_frz (ids := ids) h g1 rfl (by simp) (fun b hb => by rw [g2 b hb]; exact Nat.le_refl _)
theorem f42 (f : List Item) (hl : f.length ≤ 1000) (H : Heap) : cal (evC cprog) true 42 [eItems f] H = some (eSte (staF f), H) := by
  rw [cal_of at42]
  have h45 := f45z f hl
  simp only [c42, h45, cells_eItems, isTup_eItems, evX, Int.reduceEq, Int.reduceLT, Int.reduceLE, Nat.reduceMul, Nat.reduceMod, evW, fn_eq, evR, Nat.reduceAdd, Nat.reduceLT, Nat.reduceLeDiff, reduceIte, Nat.reduceEqDiff, reduceCtorEq, argEnv, eq_self, if_true, if_false]
  exact calK_frz (ids := []) rfl rfl (by simp) (by simp)
theorem f48 (s : Ste) (hl : s.items.length < 9223372036854775807) (H : Heap) : cal (evC cprog) false 48 [eSte s] H = some (.bool (numOk s), H) := by
  rw [cal_of at48]
  have hlen := (sItems [] s.items).len
  simp only [List.length_map] at hlen
  obtain ⟨f, a, n, p, h⟩ := s
  simp only at hl hlen
  by_cases n1 : a < -1
  · simp only [c48, eSte, rSte, hlen, n1, evX, Int.reduceEq, Int.reduceLT, Int.reduceLE, Nat.reduceMul, Nat.reduceMod, evW, fn_eq, evR, Nat.reduceAdd, Nat.reduceLT, Nat.reduceLeDiff, reduceIte, Nat.reduceEqDiff, reduceCtorEq, argEnv, eq_self, if_true, if_false]
    simp [numOk]; omega
  by_cases n2 : (f.length : Int) ≤ a
  · simp only [c48, eSte, rSte, hlen, n1, n2, evX, Int.reduceEq, Int.reduceLT, Int.reduceLE, Nat.reduceMul, Nat.reduceMod, evW, fn_eq, evR, Nat.reduceAdd, Nat.reduceLT, Nat.reduceLeDiff, reduceIte, Nat.reduceEqDiff, reduceCtorEq, argEnv, eq_self, if_true, if_false]
    simp [numOk]; omega
  by_cases n3 : n < 0
  · simp only [c48, eSte, rSte, hlen, n1, n2, n3, evX, Int.reduceEq, Int.reduceLT, Int.reduceLE, Nat.reduceMul, Nat.reduceMod, evW, fn_eq, evR, Nat.reduceAdd, Nat.reduceLT, Nat.reduceLeDiff, reduceIte, Nat.reduceEqDiff, reduceCtorEq, argEnv, eq_self, if_true, if_false]
    simp [numOk]; omega
  by_cases n4 : (f.length : Int) < n
  · simp only [c48, eSte, rSte, hlen, n1, n2, n3, n4, evX, Int.reduceEq, Int.reduceLT, Int.reduceLE, Nat.reduceMul, Nat.reduceMod, evW, fn_eq, evR, Nat.reduceAdd, Nat.reduceLT, Nat.reduceLeDiff, reduceIte, Nat.reduceEqDiff, reduceCtorEq, argEnv, eq_self, if_true, if_false]
    simp [numOk]; omega
  by_cases n5 : p < -1
  · simp only [c48, eSte, rSte, hlen, n1, n2, n3, n4, n5, evX, Int.reduceEq, Int.reduceLT, Int.reduceLE, Nat.reduceMul, Nat.reduceMod, evW, fn_eq, evR, Nat.reduceAdd, Nat.reduceLT, Nat.reduceLeDiff, reduceIte, Nat.reduceEqDiff, reduceCtorEq, argEnv, eq_self, if_true, if_false]
    simp [numOk]; omega
  by_cases n6 : (f.length : Int) ≤ p
  · simp only [c48, eSte, rSte, hlen, n1, n2, n3, n4, n5, n6, evX, Int.reduceEq, Int.reduceLT, Int.reduceLE, Nat.reduceMul, Nat.reduceMod, evW, fn_eq, evR, Nat.reduceAdd, Nat.reduceLT, Nat.reduceLeDiff, reduceIte, Nat.reduceEqDiff, reduceCtorEq, argEnv, eq_self, if_true, if_false]
    simp [numOk]; omega
  have e : numOk ⟨f, a, n, p, h⟩ = if a < 0 then !h else decide (n = a + 1) := by
    simp only [numOk, decide_eq_true (show -1 ≤ a by omega), decide_eq_true (show a < (f.length : Int) by omega), decide_eq_true (show 0 ≤ n by omega), decide_eq_true (show n ≤ (f.length : Int) by omega), decide_eq_true (show -1 ≤ p by omega), decide_eq_true (show p < (f.length : Int) by omega), Bool.true_and]
  rw [e]
  by_cases n7 : a < 0
  · simp only [c48, eSte, rSte, hlen, n1, n2, n3, n4, n5, n6, n7, evX, Int.reduceEq, Int.reduceLT, Int.reduceLE, Nat.reduceMul, Nat.reduceMod, evW, fn_eq, evR, Nat.reduceAdd, Nat.reduceLT, Nat.reduceLeDiff, reduceIte, Nat.reduceEqDiff, reduceCtorEq, argEnv, eq_self, if_true, if_false]
  · have hw : IntKind.i64.wrap (a + 1) = a + 1 := wrap_i64 (by omega) (by omega)
    simp only [c48, eSte, rSte, hlen, n1, n2, n3, n4, n5, n6, n7, hw, evX, Int.reduceEq, Int.reduceLT, Int.reduceLE, Nat.reduceMul, Nat.reduceMod, evW, fn_eq, evR, Nat.reduceAdd, Nat.reduceLT, Nat.reduceLeDiff, reduceIte, Nat.reduceEqDiff, reduceCtorEq, argEnv, eq_self, if_true, if_false]
theorem f18 (b : Base) (hb : b.Ok) (s : Ste) (hl : s.items.length < 9223372036854775807) (H : Heap) : cal (evC cprog) false 18 [eBase b, eSte s] H = some (bEr (validB b && forestOk b.types s.items && numOk s) (if validB b = true then 0 else 100), H) := by
  rw [cal_of at18]
  have h41 := f41 b hb s.items
  have h48 := f48 s hl
  cases hv : validB b <;> cases hf : forestOk b.types s.items
  all_goals
    simp only [eBase, bEr, hv, hf, if_true, if_false, Bool.false_eq_true, Bool.and_self, Bool.and_false, Bool.false_and] at h41
    simp only [eSte, rSte] at h48
    simp only [c18, eBase, eSte, rSte, bEr, h41, h48, evX, Int.reduceEq, Int.reduceLT, Int.reduceLE, Nat.reduceMul, Nat.reduceMod, evW, fn_eq, evR, Nat.reduceAdd, Nat.reduceLT, Nat.reduceLeDiff, reduceIte, Nat.reduceEqDiff, reduceCtorEq, argEnv, eq_self, if_true, if_false]
theorem f12 (b : Base) (hb : b.Ok) (f : List Item) (hl : f.length ≤ 1000) (H : Heap) : cal (evC cprog) true 12 [eBase b, eItems f] H = some (.tup [eSte (fstS b f), .int .i64 (forE b f)], H) := by
  rw [cal_of at12]
  have h41 := f41 b hb f
  have h42 := f42 f hl
  simp only [eSte, rSte, staF] at h42
  cases hv : validB b <;> cases hf : forestOk b.types f
  all_goals
    simp only [eBase, bEr, hv, hf, if_true, if_false, Bool.false_eq_true, Bool.and_self, Bool.and_false, Bool.false_and] at h41
    have e : forE b f = if validB b = true then (if forestOk b.types f = true then 0 else 140) else 100 := rfl
    rw [hv, hf] at e
    simp only [if_true, if_false, Bool.false_eq_true] at e
    rw [fstS, e]
    simp only [c12, eBase, h41, h42, evX, Int.reduceEq, Int.reduceLT, Int.reduceLE, Nat.reduceMul, Nat.reduceMod, evW, fn_eq, evR, Nat.reduceAdd, Nat.reduceLT, Nat.reduceLeDiff, reduceIte, Nat.reduceEqDiff, reduceCtorEq, argEnv, eq_self, if_true, if_false]
    exact calK_frz (ids := []) rfl rfl (by simp) (by simp)
theorem f16 (s t : Ste) (hl : s.items.length < 9223372036854775807) (H : Heap) : cal (evC cprog) false 16 [eSte s, eSte t] H = some (.bool (sameS s t), H) := by
  rw [cal_of at16]
  have h23 := f23 s.items t.items hl
  cases n0 : same s.items t.items <;> by_cases n1 : s.at' = t.at' <;> by_cases n2 : s.next = t.next <;> by_cases n3 : s.parent = t.parent
  all_goals
    simp only [c16, eSte, rSte, h23, n0, n1, n2, n3, evX, Int.reduceEq, Int.reduceLT, Int.reduceLE, Nat.reduceMul, Nat.reduceMod, evW, fn_eq, evR, Nat.reduceAdd, Nat.reduceLT, Nat.reduceLeDiff, reduceIte, Nat.reduceEqDiff, reduceCtorEq, argEnv, eq_self, if_true, if_false]
    simp [sameS, n0, n1, n2, n3]
end Go.Proofs.YtbdpceigmnpoaaaGreatDoor.Code

/- call: Satisfies, Search and Answer, of the program and of the document. -/
set_option linter.unusedSimpArgs false
set_option linter.unusedVariables false
namespace Go.Proofs.YtbdpceigmnpoaaaGreatDoor.Code
open Go.Proofs.YtbdpceigmnpoaaaGreatDoor.Ev

end Go.Proofs.YtbdpceigmnpoaaaGreatDoor.Code

/- call: Answer, of the program and of the document. -/
set_option linter.unusedSimpArgs false
set_option linter.unusedVariables false
namespace Go.Proofs.YtbdpceigmnpoaaaGreatDoor.Code
open Go.Proofs.YtbdpceigmnpoaaaGreatDoor.Ev

end Go.Proofs.YtbdpceigmnpoaaaGreatDoor.Code

/- call: all functions are held, by the kernel's look or by a proof of their own (without slices.Insert). -/
set_option linter.unusedSimpArgs false
set_option linter.unusedVariables false
namespace Go.Proofs.YtbdpceigmnpoaaaGreatDoor.Code
open Go.Proofs.YtbdpceigmnpoaaaGreatDoor.Ev

theorem cprog_sound {f : Nat} {c : CFn} (h : cprog f = some c) : okFn Go.Proofs.Tryz.prog f c = true ∨ Held Go.Proofs.Tryz.prog f c := by
  rcases cprog_ok h with h | h
  · exact .inl h
  · simp only [utab, List.mem_cons, Prod.mk.injEq, List.not_mem_nil, or_false] at h
    repeat' (refine Or.elim h ?_ ?_ <;> clear h <;> intro h)
    all_goals
      obtain ⟨rfl, rfl⟩ := h
      first | exact .inr (.inl (userRepl rfl rfl rfl rfl)) | exact .inr (.inl (userIdx rfl rfl rfl rfl)) | exact .inr (.inl (userCmp rfl rfl rfl rfl))
end Go.Proofs.YtbdpceigmnpoaaaGreatDoor.Code

/- Closed runs: what is asked again and again is looked up. -/
set_option linter.unusedSimpArgs false
set_option linter.unusedVariables false
namespace Go.Proofs.YtbdpceigmnpoaaaGreatDoor.Ev

/-- the evaluator, with answers known ahead -/
def evCallO (prog : Nat → Option CFn) (orc : Nat → List AV → Option (AV × Heap)) : Nat → Nat → List AV → Heap → Option (AV × Heap)
  | 0, _, _, _ => none
  | k + 1, f, args, H => match orc f args with
    | some (v, X) => some (v, H ++ X)
    | none => match prog f with
      | some c => evFn (evCallO prog orc k) (fun body => iter body k) c args H
      | none => none
theorem evCallO_le {prog : Nat → Option CFn} {orc : Nat → List AV → Option (AV × Heap)} (h : ∀ f args v X, orc f args = some (v, X) → ∀ H, evC prog f args H = some (v, H ++ X)) : ∀ n, CallLe (evCallO prog orc n) (evC prog)
  | 0, f, args, H, r, hx => by simp [evCallO] at hx
  | n + 1, f, args, H, r, hx => by
    simp only [evCallO] at hx
    cases ho : orc f args with
    | some p =>
      obtain ⟨v, X⟩ := p
      rw [ho] at hx
      cases hx
      exact h f args v X ho H
    | none =>
      rw [ho] at hx
      simp only at hx
      cases hc : prog f with
      | none => rw [hc] at hx; cases hx
      | some c =>
        rw [hc] at hx
        rw [evC_fn hc]
        exact evFn_le (evCallO_le h n) (fun b1 b2 hb s r hr => itLim_some.2 ⟨n, iter_le hb n n (Nat.le_refl _) s r hr⟩) hx
end Go.Proofs.YtbdpceigmnpoaaaGreatDoor.Ev
namespace Go.Proofs.YtbdpceigmnpoaaaGreatDoor.Code
open Go.Proofs.YtbdpceigmnpoaaaGreatDoor.Ev

/-- the base of the chapter's example -/
def shop : Base := ⟨⟨#[83, 72, 79, 80]⟩, 4, [
  ⟨⟨#[67, 85, 83, 84]⟩, -1, 1, 10, [⟨⟨#[67, 85, 83, 84, 78, 79]⟩, 0, 1⟩], 0, true, false⟩,
  ⟨⟨#[79, 82, 68, 69, 82]⟩, 0, 1, 12, [⟨⟨#[79, 82, 68, 78, 79]⟩, 0, 1⟩], 0, true, false⟩,
  ⟨⟨#[73, 84, 69, 77]⟩, 1, 1, 8, [], -1, false, true⟩,
  ⟨⟨#[80, 72, 79, 78, 69]⟩, 0, 1, 8, [], -1, false, false⟩], []⟩
theorem shop_ok : shop.Ok := by
  refine ⟨by decide, by decide, fun t ht => ?_, by decide, fun x hx => by cases hx⟩
  simp only [shop, List.mem_cons, List.not_mem_nil, or_false] at ht
  rcases ht with rfl | rfl | rfl | rfl
  all_goals
    refine ⟨by decide, by decide, fun f hf => ?_⟩
    first | (cases hf; done) | (simp only [List.mem_cons, List.not_mem_nil, or_false] at hf; subst hf; exact ⟨by decide⟩)
theorem e75 (b : Base) (hb : b.Ok) (H : Heap) : evC cprog 75 [eBase b] H = some (.bool (validB b), H ++ [bBase b]) := by
  rw [evC_fn at75]
  have h1 := f113 b.name hb.name
  have h2 := f114 b.types hb.type
  have h3 := f115 b.types b.indexes hb.indexes hb.index
  simp only [c75, eBase, h1, h2, h3, bBase, evX, Int.reduceEq, Int.reduceLT, Int.reduceLE, Nat.reduceMul, Nat.reduceMod, evW, fn_eq, evR, Nat.reduceAdd, Nat.reduceLT, Nat.reduceLeDiff, reduceIte, Nat.reduceEqDiff, reduceCtorEq, argEnv, eq_self, if_true, if_false]
  repeat' ((first | rw [guardK_cases] | rw [condK_bool] | rw [guardD_cases]); split <;> simp only [c75, eBase, h1, h2, h3, bBase, evX, Int.reduceEq, Int.reduceLT, Int.reduceLE, Nat.reduceMul, Nat.reduceMod, evW, evR, Nat.reduceAdd, Nat.reduceLT, Nat.reduceLeDiff, reduceIte, Nat.reduceEqDiff, reduceCtorEq, argEnv, eq_self, if_true, if_false, *])
  all_goals (simp_all [validB]; try (intros; omega))
theorem shop_valid : validB shop = true := by
  have h1 : evCall cprog 100 75 [eBase shop] [] = some (.bool true, [bBase shop]) := by kernel_rfl
  have h2 := evC_of h1
  rw [e75 shop shop_ok] at h2
  simpa using h2
def orc75 (f : Nat) (args : List AV) : Option (AV × Heap) := if f = 75 then (if AV.beqL args [eBase shop] = true then some (.bool true, [bBase shop]) else none) else none
theorem orc_ok (f : Nat) (args : List AV) (v : AV) (X : Heap) (h : orc75 f args = some (v, X)) (H : Heap) : evC cprog f args H = some (v, H ++ X) := by
  unfold orc75 at h
  split at h
  case isFalse => cases h
  rename_i hf
  split at h
  case isFalse => cases h
  rename_i ha
  cases h
  rw [AV.eq_of_beqL _ _ ha, hf, e75 shop shop_ok, shop_valid]
theorem first_run : evCallO cprog orc75 300 10 [] [] = some (.bool true, []) := by kernel_rfl
theorem closed_any {call it} {c : CFn} {b : Bool} (hc : c.closed = true) (h : evFn call it c [] [] = some (.bool b, [])) (H : Heap) : evFn call it c [] H = some (.bool b, H) := by
  unfold evFn at h ⊢
  rw [if_pos hc] at h ⊢
  simp only at h ⊢
  split at h
  · cases h; rfl
  · cases h
theorem f10 (H : Heap) : cal (evC cprog) false 10 [] H = some (.bool true, H) := by
  have h := evCallO_le orc_ok 300 10 [] [] _ first_run
  rw [evC_fn at10] at h
  rw [cal_of at10, closed_any rfl h H, calK_f, gc_same]
end Go.Proofs.YtbdpceigmnpoaaaGreatDoor.Code

/- The law CallFirst is true. -/
set_option linter.unusedSimpArgs false
set_option linter.unusedVariables false
namespace Go.Proofs.YtbdpceigmnpoaaaGreatDoor.Code
open Go.Proofs.YtbdpceigmnpoaaaGreatDoor.Ev Go.RowKit

end Go.Proofs.YtbdpceigmnpoaaaGreatDoor.Code
namespace Go.Proofs.YtbdpceigmnpoaaaGreatDoor.Pure
open Go.Proofs.YtbdpceigmnpoaaaGreatDoor.Ev Go.Proofs.YtbdpceigmnpoaaaGreatDoor.Code
end Go.Proofs.YtbdpceigmnpoaaaGreatDoor.Pure

/- The law CallSatisfies is true. -/
set_option linter.unusedSimpArgs false
set_option linter.unusedVariables false
namespace Go.Proofs.YtbdpceigmnpoaaaGreatDoor.Code
open Go.Proofs.YtbdpceigmnpoaaaGreatDoor.Ev Go.RowKit

theorem eqsAn (x : An) : eqsK false [2, 2, 0, 2, 2] (some (.agg [.str x.status, .str x.seg, .int .i64 x.level, .str x.key, .str x.data])) (some (.agg [.str x.status, .str x.seg, .int .i64 x.level, .str x.key, .str x.data])) = some (.bool true) := by
  simp [eqsK, cellsEq, cellEq]
end Go.Proofs.YtbdpceigmnpoaaaGreatDoor.Code
namespace Go.Proofs.YtbdpceigmnpoaaaGreatDoor.Pure
open Go.Proofs.YtbdpceigmnpoaaaGreatDoor.Ev Go.Proofs.YtbdpceigmnpoaaaGreatDoor.Code
end Go.Proofs.YtbdpceigmnpoaaaGreatDoor.Pure

/- call: which calls get, change and hold; what is said; states with memory of their own. -/
set_option linter.unusedSimpArgs false
set_option linter.unusedVariables false
namespace Go.Proofs.YtbdpceigmnpoaaaGreatDoor.Code
open Go.Proofs.YtbdpceigmnpoaaaGreatDoor.Ev

def sGU : ByteArray := ⟨#[71, 85]⟩
def sGN : ByteArray := ⟨#[71, 78]⟩
def sGNP : ByteArray := ⟨#[71, 78, 80]⟩
def sGHU : ByteArray := ⟨#[71, 72, 85]⟩
def sGHN : ByteArray := ⟨#[71, 72, 78]⟩
def sGHNP : ByteArray := ⟨#[71, 72, 78, 80]⟩
def getsL : List ByteArray := [sGU, sGN, sGNP, sGHU, sGHN, sGHNP]
def getsB (d : ByteArray) : Bool := getsL.any fun x => decide (d = x)
theorem f100 (s : ByteArray) (H : Heap) (a : AV) (l : List ByteArray) (ha : SlAt H 1 a (l.map fun x => [.str x])) (hl : l.length < 9223372036854775807) : cal (evC cprog) false 100 [a, .str s] H = some (.bool (l.any fun x => decide (s = x)), H) := by
  rw [cal_of at100]
  have h133 := index_ok at133 s H a l ha hl
  have h := idxOf_nonneg (fun x => decide (s = x)) l
  simp only [c100, h133, h, evX, Int.reduceEq, Int.reduceLT, Int.reduceLE, Nat.reduceMul, Nat.reduceMod, evW, fn_eq, evR, Nat.reduceAdd, Nat.reduceLT, Nat.reduceLeDiff, reduceIte, Nat.reduceEqDiff, reduceCtorEq, argEnv, eq_self, if_true, if_false]
theorem f56 (d : ByteArray) (H : Heap) : cal (evC cprog) false 56 [.str d] H = some (.bool (getsB d), H) := by
  rw [cal_of at56]
  have h100 := f100 d (H ++ [⟨0, true, 9, 1, getsL.map fun x => [.str x]⟩]) (.ref H.length 0 1 0 6) getsL (.ref (rows := getsL.map fun x => [.str x]) (k := ⟨0, true, 9, 1, getsL.map fun x => [.str x]⟩) (by simp [curBlk]) fun i row hi => by
    refine ⟨?_, by simpa using hi⟩
    obtain ⟨y, _, rfl⟩ := List.mem_map.1 (List.mem_of_getElem? hi)
    rfl) (by decide)
  change cal _ _ _ _ _ = some (.bool (getsB d), _) at h100
  simp only [getsL, List.map_cons, List.map_nil, sGU, sGN, sGNP, sGHU, sGHN, sGHNP] at h100
  simp only [c56, h100, evX, Int.reduceEq, Int.reduceLT, Int.reduceLE, Nat.reduceMul, Nat.reduceMod, evW, fn_eq, evR, Nat.reduceAdd, Nat.reduceLT, Nat.reduceLeDiff, reduceIte, Nat.reduceEqDiff, reduceCtorEq, argEnv, eq_self, if_true, if_false]
def relS (s : Ste) : Ste := ⟨s.items, s.at', s.next, s.parent, false⟩
def sayA (st : ByteArray) : An := ⟨st, ⟨#[]⟩, 0, ⟨#[]⟩, ⟨#[]⟩⟩
def say (s : Ste) (st : ByteArray) : Ste × An := (relS s, sayA st)
def eR2 (r : Ste × An) : AV := .tup [eSte r.1, eAn r.2]
/-- what a call is named, if it is well -/
theorem f125 (d : ByteArray) (c : UInt8) (h : d.data.toList[1]? = some c) (H : Heap) : cal (evC cprog) false 125 [.str d] H = some (.bool (decide ((c.toNat : Int) = 72)), H) := by
  rw [cal_of at125]
  have hix : idxK (some (.str d)) (some (.int .i64 1)) = some (.int .u8 (c.toNat : Int)) := idx_at d h
  simp only [c125, hix, evX, Int.reduceEq, Int.reduceLT, Int.reduceLE, Nat.reduceMul, Nat.reduceMod, evW, fn_eq, evR, Nat.reduceAdd, Nat.reduceLT, Nat.reduceLeDiff, reduceIte, Nat.reduceEqDiff, reduceCtorEq, argEnv, eq_self, if_true, if_false]
end Go.Proofs.YtbdpceigmnpoaaaGreatDoor.Code

/- call: the end of a subtree and the status of a step, as the book tells them; the parent that codes set. -/
set_option linter.unusedSimpArgs false
set_option linter.unusedVariables false
namespace Go.Proofs.YtbdpceigmnpoaaaGreatDoor.Code
open Go.Proofs.YtbdpceigmnpoaaaGreatDoor.Ev

theorem f105p (b : Base) (f : List Item) (hr : Right b f) (H : Heap) : ∃ Z, cal (evC cprog) false 105 [eBase b, eItems f] H = some (.ptr (H.length + 1) 0 6 0 0, H ++ Z) ∧ ∀ P : Heap, P.length = H.length → Bk b f (H.length + 1) (P ++ Z) := by
  obtain ⟨rv, X, h1, h2⟩ := o105 b f hr H
  refine ⟨_, h1, fun P hP => ⟨rv, .mk (by rw [← hP, at_app]; rfl), ?_⟩⟩
  have := out_slat h2 (P ++ [bBase b, bBk b f rv, litB, lasB f b.types.length f.length]) (by simp [hP]) fun r hr => by obtain ⟨_, _, rfl⟩ := List.mem_map.1 hr; rfl
  simpa only [opH, List.append_assoc, List.cons_append, List.nil_append] using this
def sGA : ByteArray := ⟨#[71, 65]⟩
def sGK : ByteArray := ⟨#[71, 75]⟩
/-- the status of a step to an item -/
def movS (b : Base) (f : List Item) (was : Int) (i : Nat) : ByteArray :=
  if was < 0 then sWell else if (pth b.types f i).length < (pth b.types f was.toNat).length then sGA else if (pth b.types f i).length = (pth b.types f was.toNat).length ∧ typ f (i : Int) ≠ typ f was then sGK else sWell
theorem f127 (b : Base) (f : List Item) (hr : Right b f) (p : Nat) (K : Heap) (hk : Bk b f p K) (was : Int) (hw : was < (f.length : Int)) (i : Nat) (hi : i < f.length) : cal (evC cprog) false 127 [.ptr p 0 6 0 0, .int .i64 was, .int .i64 (i : Int)] K = some (.str (movS b f was i), K) := by
  rw [cal_of at127]
  by_cases h0 : was < 0
  · have e : movS b f was i = sWell := if_pos h0
    rw [e]
    simp only [c127, h0, evX, Int.reduceEq, Int.reduceLT, Int.reduceLE, Nat.reduceMul, Nat.reduceMod, evW, fn_eq, evR, Nat.reduceAdd, Nat.reduceLT, Nat.reduceLeDiff, reduceIte, Nat.reduceEqDiff, reduceCtorEq, argEnv, eq_self, if_true, if_false]
    rfl
  · obtain ⟨m, rfl⟩ : ∃ m : Nat, was = (m : Int) := ⟨was.toNat, by omega⟩
    obtain ⟨pv, _, hp, _⟩ := hk.open
    have h1 := f108 b f hr p K hk m (by omega)
    have h2 := f108 b f hr p K hk i hi
    have l1 := (sIs [] (pth b.types f m)).len
    have l2 := (sIs [] (pth b.types f i)).len
    simp only [List.length_map] at l1 l2
    obtain ⟨x, hx⟩ : ∃ x, f[i]? = some x := ⟨_, List.getElem?_eq_getElem hi⟩
    obtain ⟨y, hy⟩ : ∃ y, f[m]? = some y := ⟨_, List.getElem?_eq_getElem (by omega)⟩
    have ax := aItem hx
    have ay := aItem hy
    have e : movS b f (m : Int) i = if (pth b.types f i).length < (pth b.types f m).length then sGA else if (pth b.types f i).length = (pth b.types f m).length ∧ x.type ≠ y.type then sGK else sWell := by
      unfold movS; rw [if_neg h0, Int.toNat_natCast, typ_at hx, typ_at hy]
    rw [e]
    by_cases c1 : (pth b.types f i).length < (pth b.types f m).length
    · have c1' : ((pth b.types f i).length : Int) < ((pth b.types f m).length : Int) := by omega
      rw [if_pos c1]
      simp only [c127, h0, h1, h2, l1, l2, c1', evX, Int.reduceEq, Int.reduceLT, Int.reduceLE, Nat.reduceMul, Nat.reduceMod, evW, fn_eq, evR, Nat.reduceAdd, Nat.reduceLT, Nat.reduceLeDiff, reduceIte, Nat.reduceEqDiff, reduceCtorEq, argEnv, eq_self, if_true, if_false]
      rfl
    · have c1' : ¬ ((pth b.types f i).length : Int) < ((pth b.types f m).length : Int) := by omega
      rw [if_neg c1]
      by_cases c2 : (pth b.types f i).length = (pth b.types f m).length
      · have c2' : (((pth b.types f i).length : Int) = ((pth b.types f m).length : Int)) = True := eq_true (by omega)
        by_cases c3 : x.type = y.type
        · rw [if_neg (fun h => h.2 c3)]
          simp only [c127, nilck_ptr, h0, h1, h2, l1, l2, c1', c2', hp, ax, ay, rItem, c3, evX, Int.reduceEq, Int.reduceLT, Int.reduceLE, Nat.reduceMul, Nat.reduceMod, evW, fn_eq, evR, Nat.reduceAdd, Nat.reduceLT, Nat.reduceLeDiff, reduceIte, Nat.reduceEqDiff, reduceCtorEq, argEnv, eq_self, if_true, if_false]
          rfl
        · rw [if_pos ⟨c2, c3⟩]
          simp only [c127, nilck_ptr, h0, h1, h2, l1, l2, c1', c2', hp, ax, ay, rItem, c3, evX, Int.reduceEq, Int.reduceLT, Int.reduceLE, Nat.reduceMul, Nat.reduceMod, evW, fn_eq, evR, Nat.reduceAdd, Nat.reduceLT, Nat.reduceLeDiff, reduceIte, Nat.reduceEqDiff, reduceCtorEq, argEnv, eq_self, if_true, if_false]
          rfl
      · have c2' : ¬ ((pth b.types f i).length : Int) = ((pth b.types f m).length : Int) := by omega
        rw [if_neg (fun h => c2 h.1)]
        simp only [c127, nilck_ptr, h0, h1, h2, l1, l2, c1', c2', evX, Int.reduceEq, Int.reduceLT, Int.reduceLE, Nat.reduceMul, Nat.reduceMod, evW, fn_eq, evR, Nat.reduceAdd, Nat.reduceLT, Nat.reduceLeDiff, reduceIte, Nat.reduceEqDiff, reduceCtorEq, argEnv, eq_self, if_true, if_false]
        rfl
def bSte (s : Ste) : Blk := ⟨0, true, 35, 5, [rSte s]⟩
def bSte0 : Blk := ⟨0, true, 35, 5, [[.nils, .int .i64 0, .int .i64 0, .int .i64 0, .bool false]]⟩
def bAnn (a : An) : Blk := ⟨0, true, 49, 5, [rAn a]⟩
theorem at_five {α : Type} (a b c d e x : α) (Z G : List α) : (a :: b :: c :: d :: e :: (Z ++ (x :: G)))[Z.length + 5]? = some x := by
  simp only [List.getElem?_cons_succ]
  rw [List.getElem?_append_right (Nat.le_refl _)]
  simp
theorem set_five {α : Type} (a b c d e x w : α) (Z G : List α) : (a :: b :: c :: d :: e :: (Z ++ (x :: G))).set (Z.length + 5) w = a :: b :: c :: d :: e :: (Z ++ (w :: G)) := by
  simp only [List.set_cons_succ]
  rw [List.set_append_right _ _ (Nat.le_refl _)]
  simp
end Go.Proofs.YtbdpceigmnpoaaaGreatDoor.Code

/- call: the calls that get, by the program. -/
set_option linter.unusedSimpArgs false
set_option linter.unusedVariables false
namespace Go.Proofs.YtbdpceigmnpoaaaGreatDoor.Code
open Go.Proofs.YtbdpceigmnpoaaaGreatDoor.Ev

def sGB : ByteArray := ⟨#[71, 66]⟩
/-- the answer with a status of its own -/
def an1 (st : ByteArray) (a : An) : An := ⟨st, a.seg, a.level, a.key, a.data⟩
theorem k125 : ∀ H, cal (evC cprog) false 125 [.str sGU] H = some (.bool false, H) ∧ cal (evC cprog) false 125 [.str sGN] H = some (.bool false, H) ∧ cal (evC cprog) false 125 [.str sGNP] H = some (.bool false, H) ∧
    cal (evC cprog) false 125 [.str sGHU] H = some (.bool true, H) ∧ cal (evC cprog) false 125 [.str sGHN] H = some (.bool true, H) ∧ cal (evC cprog) false 125 [.str sGHNP] H = some (.bool true, H) := fun H =>
  ⟨f125 sGU 85 rfl H, f125 sGN 78 rfl H, f125 sGNP 78 rfl H, f125 sGHU 72 rfl H, f125 sGHN 72 rfl H, f125 sGHNP 72 rfl H⟩
theorem cut_lit : evSlcs (⟨#[71, 72, 85]⟩ : ByteArray) (some 2) none = some (.str ⟨#[85]⟩) ∧ evSlcs (⟨#[71, 72, 78]⟩ : ByteArray) (some 2) none = some (.str ⟨#[78]⟩) ∧ evSlcs (⟨#[71, 72, 78, 80]⟩ : ByteArray) (some 2) none = some (.str ⟨#[78, 80]⟩) := ⟨rfl, rfl, rfl⟩
theorem app_lit : (⟨#[71]⟩ : ByteArray) ++ (⟨#[85]⟩ : ByteArray) = ⟨#[71, 85]⟩ ∧ (⟨#[71]⟩ : ByteArray) ++ (⟨#[78]⟩ : ByteArray) = ⟨#[71, 78]⟩ ∧ (⟨#[71]⟩ : ByteArray) ++ (⟨#[78, 80]⟩ : ByteArray) = ⟨#[71, 78, 80]⟩ := ⟨rfl, rfl, rfl⟩
theorem dec_lit : decide ((⟨#[71, 85]⟩ : ByteArray) = ⟨#[71, 85]⟩) = true ∧ decide ((⟨#[71, 78]⟩ : ByteArray) = ⟨#[71, 85]⟩) = false ∧ decide ((⟨#[71, 78, 80]⟩ : ByteArray) = ⟨#[71, 85]⟩) = false ∧
    decide ((⟨#[71, 85]⟩ : ByteArray) = ⟨#[71, 78, 80]⟩) = false ∧ decide ((⟨#[71, 78]⟩ : ByteArray) = ⟨#[71, 78, 80]⟩) = false ∧ decide ((⟨#[71, 78, 80]⟩ : ByteArray) = ⟨#[71, 78, 80]⟩) = true ∧
    decide ((⟨#[71, 85]⟩ : ByteArray) = ⟨#[71, 78]⟩) = false ∧ decide ((⟨#[71, 78]⟩ : ByteArray) = ⟨#[71, 78]⟩) = true ∧ decide ((⟨#[71, 78, 80]⟩ : ByteArray) = ⟨#[71, 78]⟩) = false := by decide
theorem siz_lit : ((⟨#[71]⟩ : ByteArray).size + (⟨#[85]⟩ : ByteArray).size ≤ 9223372036854775807) = True ∧ ((⟨#[71]⟩ : ByteArray).size + (⟨#[78]⟩ : ByteArray).size ≤ 9223372036854775807) = True ∧ ((⟨#[71]⟩ : ByteArray).size + (⟨#[78, 80]⟩ : ByteArray).size ≤ 9223372036854775807) = True := ⟨eq_true (by decide), eq_true (by decide), eq_true (by decide)⟩
/-- what a call that gets needs of a state -/
structure Gt (b : Base) (s : Ste) (l : List Ar) : Prop where
  hr : Right b s.items
  no : numOk s = true
  l5 : l.length ≤ 1000
  ok : ∀ a ∈ l, ArOk b.types a
theorem Gt.num {b : Base} {s : Ste} {l : List Ar} (g : Gt b s l) : -1 ≤ s.at' ∧ s.at' < (s.items.length : Int) ∧ 0 ≤ s.next ∧ s.next ≤ (s.items.length : Int) ∧ -1 ≤ s.parent ∧ s.parent < (s.items.length : Int) ∧ s.items.length ≤ 1000 := by
  have := g.no
  have := g.hr.len
  simp only [numOk, Bool.and_eq_true, decide_eq_true_eq] at *
  omega
end Go.Proofs.YtbdpceigmnpoaaaGreatDoor.Code

/- call: what the document's get needs: depth, ends, First; the loop of codes P. -/
set_option linter.unusedSimpArgs false
set_option linter.unusedVariables false
namespace Go.Proofs.YtbdpceigmnpoaaaGreatDoor.Code
open Go.Proofs.YtbdpceigmnpoaaaGreatDoor.Ev

theorem f50 (b : Base) (hb : b.Ok) (hv : validB b = true) (k : Nat) (hk : k < b.types.length) (h8 : b.types.length ≤ 1000) (H : Heap) : cal (evC cprog) true 50 [eBase b, .int .i64 (k : Int)] H = some (.tup [eIs (anc b.types k), .int .i64 0], H) := by
  rw [cal_of at50]
  have h91 := f91k b hb hv k hk H [bBase b]
  have h80 := f80 b b.types.length (tys_good (valid_tys hv)) (Nat.le_refl _) h8 k hk
  have hcu : (eIs (anc b.types k)).cells = [eIs (anc b.types k)] := rfl
  have htu : (eIs (anc b.types k)).isTup = false := rfl
  simp only [eBase, bBase, List.length_cons, List.length_nil, Nat.zero_add, List.cons_append, List.nil_append] at h91 h80
  simp only [c50, eBase, h91, h80, hcu, htu, evX, Int.reduceEq, Int.reduceLT, Int.reduceLE, Nat.reduceMul, Nat.reduceMod, evW, fn_eq, evR, Nat.reduceAdd, Nat.reduceLT, Nat.reduceLeDiff, reduceIte, Nat.reduceEqDiff, reduceCtorEq, argEnv, eq_self, if_true, if_false]
  exact calK_frz (ids := []) rfl rfl (by simp) (by simp)
theorem f21 (b : Base) (hb : b.Ok) (hv : validB b = true) (k : Nat) (hk : k < b.types.length) (h8 : b.types.length ≤ 1000) (H : Heap) : cal (evC cprog) false 21 [eBase b, .int .i64 (k : Int)] H = some (.tup [.int .i64 ((anc b.types k).length : Int), .int .i64 0], H) := by
  rw [cal_of at21]
  have h50 := f50 b hb hv k hk h8
  have hlen := (sIs [] (anc b.types k)).len
  simp only [List.length_map] at hlen
  simp only [eBase] at h50
  simp only [c21, eBase, h50, hlen, evX, Int.reduceEq, Int.reduceLT, Int.reduceLE, Nat.reduceMul, Nat.reduceMod, evW, fn_eq, evR, Nat.reduceAdd, Nat.reduceLT, Nat.reduceLeDiff, reduceIte, Nat.reduceEqDiff, reduceCtorEq, argEnv, eq_self, if_true, if_false]
end Go.Proofs.YtbdpceigmnpoaaaGreatDoor.Code

/- call: the calls GN and GHN whose arguments are nil, by the program. -/
set_option linter.unusedSimpArgs false
set_option linter.unusedVariables false
namespace Go.Proofs.YtbdpceigmnpoaaaGreatDoor.Code
open Go.Proofs.YtbdpceigmnpoaaaGreatDoor.Ev Go.RowKit

theorem f106z (p : Nat) (K : Heap) (i : Nat) : cal (evC cprog) false 106 [.ptr p 0 6 0 0, .nils, eIs [], .int .i64 (i : Int)] K = some (.bool true, K) := by
  rw [cal_of at106]
  simp only [c106, evX, Int.reduceEq, Int.reduceLT, Int.reduceLE, Nat.reduceMul, Nat.reduceMod, evW, fn_eq, evR, Nat.reduceAdd, Nat.reduceLT, Nat.reduceLeDiff, reduceIte, Nat.reduceEqDiff, reduceCtorEq, argEnv, eq_self, if_true, if_false]
  rw [itLim_eq]
  simp only [c106_l0, Int.lt_irrefl, evX, Int.reduceEq, Int.reduceLT, Int.reduceLE, Nat.reduceMul, Nat.reduceMod, evW, fn_eq, evR, Nat.reduceAdd, Nat.reduceLT, Nat.reduceLeDiff, reduceIte, Nat.reduceEqDiff, reduceCtorEq, argEnv, eq_self, if_true, if_false]
theorem f62z (p : Nat) (K : Heap) (i : Nat) : cal (evC cprog) false 62 [.ptr p 0 6 0 0, .nils, eIs [], .int .i64 (i : Int)] K = some (.bool true, K) := by
  rw [cal_of at62]
  have h106 := f106z p K i
  have hlen : lenK false (some (eIs [])) = some (.int .i64 0) := rfl
  simp only [c62, nilck_ptr, hlen, Int.lt_irrefl, h106, evX, Int.reduceEq, Int.reduceLT, Int.reduceLE, Nat.reduceMul, Nat.reduceMod, evW, fn_eq, evR, Nat.reduceAdd, Nat.reduceLT, Nat.reduceLeDiff, reduceIte, Nat.reduceEqDiff, reduceCtorEq, argEnv, eq_self, if_true, if_false]
theorem f65z (p : Nat) (K : Heap) (i n : Nat) (hn : i < 1000) : cal (evC cprog) false 65 [.ptr p 0 6 0 0, .nils, eIs [], .int .i64 (i : Int), .int .i64 (n : Int)] K = some (.int .i64 (if i < n then (i : Int) else -1), K) := by
  rw [cal_of at65]
  have h62 := f62z p K i
  by_cases h : i < n
  · have hlt : (i : Int) < (n : Int) := by omega
    rw [if_pos h]
    simp only [c65, evX, Int.reduceEq, Int.reduceLT, Int.reduceLE, Nat.reduceMul, Nat.reduceMod, evW, fn_eq, evR, Nat.reduceAdd, Nat.reduceLT, Nat.reduceLeDiff, reduceIte, Nat.reduceEqDiff, reduceCtorEq, argEnv, eq_self, if_true, if_false]
    rw [itLim_eq]
    simp only [c65_l0, hlt, h62, evX, Int.reduceEq, Int.reduceLT, Int.reduceLE, Nat.reduceMul, Nat.reduceMod, evW, fn_eq, evR, Nat.reduceAdd, Nat.reduceLT, Nat.reduceLeDiff, reduceIte, Nat.reduceEqDiff, reduceCtorEq, argEnv, eq_self, if_true, if_false]
  · have hlt : ¬ (i : Int) < (n : Int) := by omega
    rw [if_neg h]
    simp only [c65, evX, Int.reduceEq, Int.reduceLT, Int.reduceLE, Nat.reduceMul, Nat.reduceMod, evW, fn_eq, evR, Nat.reduceAdd, Nat.reduceLT, Nat.reduceLeDiff, reduceIte, Nat.reduceEqDiff, reduceCtorEq, argEnv, eq_self, if_true, if_false]
    rw [itLim_eq]
    simp only [c65_l0, hlt, evX, Int.reduceEq, Int.reduceLT, Int.reduceLE, Nat.reduceMul, Nat.reduceMod, evW, fn_eq, evR, Nat.reduceAdd, Nat.reduceLT, Nat.reduceLeDiff, reduceIte, Nat.reduceEqDiff, reduceCtorEq, argEnv, eq_self, if_true, if_false]
theorem f123z (b : Base) (H : Heap) : cal (evC cprog) true 123 [eBase b, .nils] H = some (.tup [.str sWell, eIs []], H) := by
  rw [cal_of at123]
  simp only [c123, eBase, evX, Int.reduceEq, Int.reduceLT, Int.reduceLE, Nat.reduceMul, Nat.reduceMod, evW, fn_eq, evR, Nat.reduceAdd, Nat.reduceLT, Nat.reduceLeDiff, reduceIte, Nat.reduceEqDiff, reduceCtorEq, argEnv, eq_self, if_true, if_false]
  rw [itLim_eq]
  simp only [c123_l0, Int.lt_irrefl, evX, Int.reduceEq, Int.reduceLT, Int.reduceLE, Nat.reduceMul, Nat.reduceMod, evW, fn_eq, evR, Nat.reduceAdd, Nat.reduceLT, Nat.reduceLeDiff, reduceIte, Nat.reduceEqDiff, reduceCtorEq, argEnv, eq_self, if_true, if_false]
  exact calK_frz (ids := []) rfl rfl (by simp) (by simp)
theorem f85z (b : Base) (hb : b.Ok) (hv : validB b = true) (H : Heap) : cal (evC cprog) false 85 [eBase b, .nils] H = some (.tup [.str sWell, .int .i64 0], H) := by
  rw [cal_of at85]
  have h75 := f75 b hb
  rw [hv] at h75
  have h123 := f123z b
  simp only [eBase] at h75 h123
  simp only [c85, eBase, h75, h123, evX, Int.reduceEq, Int.reduceLT, Int.reduceLE, Nat.reduceMul, Nat.reduceMod, evW, fn_eq, evR, Nat.reduceAdd, Nat.reduceLT, Nat.reduceLeDiff, reduceIte, Nat.reduceEqDiff, reduceCtorEq, argEnv, eq_self, if_true, if_false]
theorem f86z (b : Base) (hb : b.Ok) (hv : validB b = true) (H : Heap) : cal (evC cprog) true 86 [eBase b, .nils] H = some (.tup [eIs [], .int .i64 0], H) := by
  rw [cal_of at86]
  have h75 := f75 b hb
  rw [hv] at h75
  have h123 := f123z b
  have hcu : (eIs []).cells = [eIs []] := rfl
  have htu : (eIs []).isTup = false := rfl
  simp only [eBase, sWell] at h75 h123
  simp only [c86, eBase, h75, h123, hcu, htu, evX, Int.reduceEq, Int.reduceLT, Int.reduceLE, Nat.reduceMul, Nat.reduceMod, evW, fn_eq, evR, Nat.reduceAdd, Nat.reduceLT, Nat.reduceLeDiff, reduceIte, Nat.reduceEqDiff, reduceCtorEq, argEnv, eq_self, if_true, if_false]
  exact calK_frz (ids := []) rfl rfl (by simp) (by simp)
/-- a GN or GHN without arguments, at the item i -/
def thrA (b : Base) (f : List Item) (was : Int) (i : Nat) : An := an1 (movS b f was i) (ansB b f [] i)
def thrS (b : Base) (s : Ste) (hold : Bool) : Ste × An :=
  if s.next < (s.items.length : Int) then (⟨s.items, s.next, s.next + 1, s.next, hold⟩, thrA b s.items s.at' s.next.toNat) else (staF s.items, sayA sGB)
def rCz (d : ByteArray) : List AV := [.str d, .nils, .str ⟨#[]⟩]
def nDo (hold : Bool) : ByteArray := if hold = true then sGHN else sGN
set_option maxHeartbeats 16000000 in
theorem f88z (b : Base) (s : Ste) (hr : Right b s.items) (hno : numOk s = true) (hold : Bool) (H : Heap) : cal (evC cprog) false 88 [eBase b, eSte s, .agg (rCz (nDo hold)), eIs []] H = some (eR2 (thrS b s hold), H) := by
  have G : Gt b s [] := ⟨hr, hno, by simp, fun _ h => nomatch h⟩
  obtain ⟨m1, m2, m3, m4, m5, m6, hfl⟩ := G.num
  obtain ⟨f, a0, n0, p0, h0⟩ := s
  simp only at hr m1 m2 m3 m4 m5 m6 hfl
  obtain ⟨i, rfl⟩ : ∃ i : Nat, n0 = (i : Int) := ⟨n0.toNat, by omega⟩
  have hfln := (sItems [] f).len
  simp only [List.length_map] at hfln
  obtain ⟨Z, h105, hB⟩ := f105p b f hr (H ++ [bBase b, bSte ⟨f, a0, (i : Int), p0, h0⟩, ⟨0, true, 31, 3, [rCz (nDo hold)]⟩, bSte0, bAn0])
  have hB0 := hB (H ++ [bBase b, bSte ⟨f, a0, (i : Int), p0, h0⟩, ⟨0, true, 31, 3, [rCz (nDo hold)]⟩, bSte0, bAn0]) rfl
  have h125 := fun H => k125 H
  have h42 := f42 f hfl
  have h65 := f65z (H.length + 6) ((H ++ [bBase b, bSte ⟨f, a0, (i : Int), p0, h0⟩, ⟨0, true, 31, 3, [rCz (nDo hold)]⟩, bSte0, bAn0]) ++ Z) i f.length (by have := hr.len; omega)
  have hnr : noRef0 (eItems f) = true := rfl
  have hlz : lenK false (some AV.nils) = some (.int .i64 0) := rfl
  rw [cal_of at88]
  by_cases hif : i < f.length
  · have hin : ¬ (i : Int) < 0 := by omega
    have hil : (i : Int) < (f.length : Int) := by omega
    have e : thrS b ⟨f, a0, (i : Int), p0, h0⟩ hold = (⟨f, (i : Int), (i : Int) + 1, (i : Int), hold⟩, thrA b f a0 i) := by
      unfold thrS; simp only; rw [if_pos hil, Int.toNat_natCast]
    rw [e]
    rw [if_pos hif] at h65
    have h70 := f70 b f hr _ _ hB0 [] (by simp) .nils (eIs []) (.inr rfl) rfl (fun H => sIs H []) i hif
    have hwi := wrapS hif (by omega)
    have h127 := f127 b f hr _ _ ((hB0).app [bAnn (ansB b f [] i)]) a0 m2 i hif
    cases hold
    all_goals
      simp only [nDo, rCz, eBase, eSte, rSte, bBase, bSte, bSte0, bAn0, sGU, sGHU, sGN, sGHN, sGNP, sGHNP, say, relS, sayA, staF, eR2, eAn, rAn, List.length_append, List.length_cons, List.length_nil, Nat.zero_add, Nat.add_assoc, Nat.reduceAdd, List.append_assoc, List.cons_append, List.nil_append, bAnn, if_true, if_false, Bool.false_eq_true] at h105 h65 h125 h42 h70 h127 ⊢
      simp only [c88, eBase, eSte, rSte, h125, h105, h65, hin, h70, h127, hwi, at_five, set_five, hnr, p_slcs, slcsK_some, cut_lit, app_lit, siz_lit, dec_lit, hfln, hlz, eR2, eAn, rAn, evX, Int.reduceEq, Int.reduceLT, Int.reduceLE, Nat.reduceMul, Nat.reduceMod, evW, fn_eq, evR, Nat.reduceAdd, Nat.reduceLT, Nat.reduceLeDiff, reduceIte, Nat.reduceEqDiff, reduceCtorEq, argEnv, eq_self, if_true, if_false]
      rw [itLim_eq]
      simp only [c88_l0, Int.lt_irrefl, at_five, hnr, evX, Int.reduceEq, Int.reduceLT, Int.reduceLE, Nat.reduceMul, Nat.reduceMod, evW, fn_eq, evR, Nat.reduceAdd, Nat.reduceLT, Nat.reduceLeDiff, reduceIte, Nat.reduceEqDiff, reduceCtorEq, argEnv, eq_self, if_true, if_false]
      all_goals rfl
  · have e : thrS b ⟨f, a0, (i : Int), p0, h0⟩ hold = (staF f, sayA sGB) := by
      unfold thrS; simp only; rw [if_neg (by omega)]
    rw [e]
    rw [if_neg hif] at h65
    cases hold
    all_goals
      simp only [nDo, rCz, eBase, eSte, rSte, bBase, bSte, bSte0, bAn0, sGU, sGHU, sGN, sGHN, sGNP, sGHNP, say, relS, sayA, staF, eR2, eAn, rAn, List.length_append, List.length_cons, List.length_nil, Nat.zero_add, Nat.add_assoc, Nat.reduceAdd, List.append_assoc, List.cons_append, List.nil_append, if_true, if_false, Bool.false_eq_true] at h105 h65 h125 h42 ⊢
      simp only [c88, eBase, eSte, rSte, h125, h105, h65, h42, staF, hnr, p_slcs, slcsK_some, cut_lit, app_lit, siz_lit, dec_lit, hfln, hlz, eR2, sayA, eAn, rAn, evX, Int.reduceEq, Int.reduceLT, Int.reduceLE, Nat.reduceMul, Nat.reduceMod, evW, fn_eq, evR, Nat.reduceAdd, Nat.reduceLT, Nat.reduceLeDiff, reduceIte, Nat.reduceEqDiff, reduceCtorEq, argEnv, eq_self, if_true, if_false]
      all_goals rfl
theorem nDo_gets (hold : Bool) : getsB (nDo hold) = true ∧ (nDo hold = (⟨#[82, 69, 80, 76]⟩ : ByteArray)) = False ∧ (nDo hold = (⟨#[68, 76, 69, 84]⟩ : ByteArray)) = False ∧ (nDo hold = (⟨#[73, 83, 82, 84]⟩ : ByteArray)) = False := by
  cases hold <;> refine ⟨by decide, eq_false (by decide), eq_false (by decide), eq_false (by decide)⟩
set_option maxHeartbeats 8000000 in
theorem f46z (b : Base) (s : Ste) (hr : Right b s.items) (hno : numOk s = true) (hold : Bool) (H : Heap) : cal (evC cprog) false 46 [eBase b, eSte s, .agg (rCz (nDo hold))] H = some (eR2 (thrS b s hold), H) := by
  have hfl := hr.len
  have h45 := f45z s.items (by omega)
  have h56 := f56 (nDo hold)
  have h85 := f85z b hr.base hr.valid
  have h86 := f86z b hr.base hr.valid
  obtain ⟨hg, hd1, hd2, hi'⟩ := nDo_gets hold
  have h88 := f88z b s hr hno hold
  rw [hg] at h56
  rw [cal_of at46]
  generalize thrS b s hold = r at *
  generalize nDo hold = d at *
  obtain ⟨f, a0, n0, p0, h0⟩ := s
  simp only at h45
  have hnr : noRef0 (eItems f) = true := rfl
  obtain ⟨⟨f2, a2, n2, p2, e2⟩, ⟨x1, x2, x3, x4, x5⟩⟩ := r
  have hnr2 : noRef0 (eItems f2) = true := rfl
  simp only [eBase, eSte, rSte, rCz, eAn, rAn, eR2, sWell] at h88 h85 h86
  simp only [c46, eBase, eSte, rSte, rCz, h45, cells_eItems, isTup_eItems, hd1, hd2, h56, h85, h86, hi', h88, hnr, hnr2, eR2, eAn, rAn, evX, Int.reduceEq, Int.reduceLT, Int.reduceLE, Nat.reduceMul, Nat.reduceMod, evW, fn_eq, evR, Nat.reduceAdd, Nat.reduceLT, Nat.reduceLeDiff, reduceIte, Nat.reduceEqDiff, reduceCtorEq, argEnv, eq_self, if_true, if_false]
  all_goals rfl
set_option maxHeartbeats 8000000 in
theorem f20z (b : Base) (s : Ste) (hr : Right b s.items) (hno : numOk s = true) (hold : Bool) (H : Heap) : cal (evC cprog) true 20 [eBase b, eSte s, .agg (rCz (nDo hold))] H = some (.tup [eSte (thrS b s hold).1, eAn (thrS b s hold).2, .int .i64 0], H) := by
  rw [cal_of at20]
  have h18 := f18 b hr.base s (by have := hr.len; omega)
  have h46 := f46z b s hr hno hold
  rw [hr.valid, hr.forest, hno, if_pos rfl] at h18
  generalize thrS b s hold = r at *
  generalize nDo hold = d at *
  simp only [eBase, eSte, rSte, rCz, bEr, Bool.and_self] at h18
  obtain ⟨⟨f2, a2, n2, p2, k2⟩, ⟨x1, x2, x3, x4, x5⟩⟩ := r
  simp only [eBase, eSte, rSte, rCz, eAn, rAn, eR2] at h46
  have hnr2 : noRef0 (eItems f2) = true := rfl
  simp only [c20, eBase, eSte, rSte, rCz, h18, h46, hnr2, cells_eItems, isTup_eItems, eAn, rAn, evX, Int.reduceEq, Int.reduceLT, Int.reduceLE, Nat.reduceMul, Nat.reduceMod, evW, fn_eq, evR, Nat.reduceAdd, Nat.reduceLT, Nat.reduceLeDiff, reduceIte, Nat.reduceEqDiff, reduceCtorEq, argEnv, eq_self, if_true, if_false]
  exact calK_frz (ids := []) rfl rfl (by simp) (by simp)
end Go.Proofs.YtbdpceigmnpoaaaGreatDoor.Code

/- The law CallThrough is true. -/
set_option linter.unusedSimpArgs false
set_option linter.unusedVariables false
namespace Go.Proofs.YtbdpceigmnpoaaaGreatDoor.Code
open Go.Proofs.YtbdpceigmnpoaaaGreatDoor.Ev Go.RowKit

theorem at_3a {α : Type} (a b c x : α) (G Y : List α) : (a :: b :: c :: (G ++ (x :: Y)))[G.length + 3]? = some x := by
  simp only [List.getElem?_cons_succ]
  rw [List.getElem?_append_right (Nat.le_refl _)]
  simp
theorem set_3a {α : Type} (a b c x w : α) (G Y : List α) : (a :: b :: c :: (G ++ (x :: Y))).set (G.length + 3) w = a :: b :: c :: (G ++ (w :: Y)) := by
  simp only [List.set_cons_succ]
  rw [List.set_append_right _ _ (Nat.le_refl _)]
  simp
theorem at_3b {α : Type} (a b c x y : α) (G Y : List α) : (a :: b :: c :: (G ++ (x :: y :: Y)))[G.length + 4]? = some y := by
  simp only [List.getElem?_cons_succ]
  rw [List.getElem?_append_right (by omega), show G.length + 1 - G.length = 1 by omega]
  simp
theorem set_3b {α : Type} (a b c x y w : α) (G Y : List α) : (a :: b :: c :: (G ++ (x :: y :: Y))).set (G.length + 4) w = a :: b :: c :: (G ++ (x :: w :: Y)) := by
  simp only [List.set_cons_succ]
  rw [List.set_append_right _ _ (by omega), show G.length + 1 - G.length = 1 by omega]
  simp
theorem movS_cases (b : Base) (f : List Item) (was : Int) (i : Nat) : movS b f was i = ⟨#[32, 32]⟩ ∨ movS b f was i = ⟨#[71, 65]⟩ ∨ movS b f was i = ⟨#[71, 75]⟩ := by
  unfold movS
  split
  · exact .inl rfl
  · split
    · exact .inr (.inl rfl)
    · split
      · exact .inr (.inr rfl)
      · exact .inl rfl
theorem dat_none (b : Base) (f : List Item) (i : Nat) {x : Item} (hx : f[i]? = some x) : (ansB b f [] i).data = x.data := by
  have h : datL b f [] i = [] := by
    unfold datL
    rw [List.flatMap_eq_nil_iff]
    intro a _
    rfl
  show catL ⟨#[]⟩ (datL b f [] i ++ [dat f (i : Int)]) = x.data
  rw [h, dat_at hx]
  show (⟨#[]⟩ : ByteArray) ++ x.data = x.data
  exact ByteArray.empty_append
/-- the state at a step -/
def stT (f : List Item) (hold : Bool) (i : Nat) : Ste := if i = 0 then staF f else ⟨f, (i : Int) - 1, (i : Int), (i : Int) - 1, hold⟩
theorem stT_no (f : List Item) (hold : Bool) {i : Nat} (hi : i ≤ f.length) : numOk (stT f hold i) = true := by
  unfold stT
  split
  · exact numOk_staF f
  · simp [numOk]; omega
theorem stT_items (f : List Item) (hold : Bool) (i : Nat) : (stT f hold i).items = f := by unfold stT; split <;> rfl
theorem stT_next (f : List Item) (hold : Bool) (i : Nat) : (stT f hold i).next = (i : Int) := by
  unfold stT; split
  · rename_i h; rw [h]; rfl
  · rfl
theorem thr_step (b : Base) (f : List Item) (hold : Bool) {i : Nat} (hi : i < f.length) : thrS b (stT f hold i) hold = (⟨f, (i : Int), ((i + 1 : Nat) : Int), (i : Int), hold⟩, thrA b f (stT f hold i).at' i) := by
  unfold thrS
  rw [stT_items, stT_next, if_pos (by omega), Int.toNat_natCast]; rfl
theorem stT_succ (f : List Item) (hold : Bool) (i : Nat) : stT f hold (i + 1) = ⟨f, (i : Int), ((i + 1 : Nat) : Int), (i : Int), hold⟩ := by
  unfold stT
  rw [if_neg (by omega), show ((i + 1 : Nat) : Int) - 1 = (i : Int) by omega]
theorem thr_last (b : Base) (f : List Item) (hold : Bool) : thrS b (stT f hold f.length) hold = (staF f, sayA sGB) := by
  unfold thrS
  rw [stT_items, stT_next, if_neg (by omega)]
def bCz (d : ByteArray) : Blk := ⟨0, true, 31, 3, [rCz d]⟩
theorem lit_no : ((⟨#[71, 65]⟩ : ByteArray) = ⟨#[32, 32]⟩) = False ∧ ((⟨#[71, 75]⟩ : ByteArray) = ⟨#[32, 32]⟩) = False ∧ ((⟨#[71, 75]⟩ : ByteArray) = ⟨#[71, 65]⟩) = False := ⟨eq_false (by decide), eq_false (by decide), eq_false (by decide)⟩
set_option maxHeartbeats 16000000 in
set_option maxRecDepth 8000 in
theorem l4 (b : Base) (f : List Item) (hr : Right b f) (hold : Bool) (st : St) (hE : keepEnv st.1 [1, 2, 3, 7, 9, 10] = [(1, eItems f), (2, .bool hold), (3, .ptr 0 0 4 0 0), (7, .ptr 1 0 5 0 0), (9, .ptr 2 0 3 0 0), (10, .int .i64 0)]) (hH : st.2 = bBase b :: bSte (staF f) :: bCz (nDo hold) :: []) (z : Option (CX × St)) (hz : itLim (evCode (evC cprog) itLim c4_l0) st = z) :
    ∃ T G, z = some (.exit 0, T, bBase b :: bSte (stT f hold f.length) :: bCz (nDo hold) :: G) ∧ keepEnv T [1, 3, 7, 9] = [(1, eItems f), (3, .ptr 0 0 4 0 0), (7, .ptr 1 0 5 0 0), (9, .ptr 2 0 3 0 0)] := by
  have hfl := hr.len
  have hfln := (sItems [] f).len
  simp only [List.length_map] at hfln
  have L := loop_rule (σ := Nat × Heap) (m := [1, 2, 3, 7, 9, 10]) (env := fun y => [(1, eItems f), (2, .bool hold), (3, .ptr 0 0 4 0 0), (7, .ptr 1 0 5 0 0), (9, .ptr 2 0 3 0 0), (10, .int .i64 (y.1 : Int))]) (hp := fun y => bBase b :: bSte (stT f hold y.1) :: bCz (nDo hold) :: y.2)
    (P := fun _ r => ∃ T G, r = (.exit 0, T, bBase b :: bSte (stT f hold f.length) :: bCz (nDo hold) :: G) ∧ keepEnv T [1, 3, 7, 9] = [(1, eItems f), (3, .ptr 0 0 4 0 0), (7, .ptr 1 0 5 0 0), (9, .ptr 2 0 3 0 0)])
    (mu := fun y => f.length - y.1) (I := fun y => y.1 ≤ f.length) (evCode (evC cprog) itLim c4_l0) ?_ (0, []) st (Nat.zero_le _) hE hH z hz
  · obtain ⟨_, rfl, T, G, rfl, hT⟩ := L
    exact ⟨T, G, rfl, hT⟩
  · rintro ⟨i, G⟩ hi E hE
    simp only at hi hE
    by_cases hlt : i < f.length
    · have hil : (i : Int) < (f.length : Int) := by omega
      have hw := wrapS hlt (by omega)
      obtain ⟨x, k, t, hx, hk, hkl, ht, _⟩ := hr.item hlt
      have hax := aItem hx
      have hat := aTy ht
      rw [← hk] at hat
      have h20 := f20z b (stT f hold i) (by rw [stT_items]; exact hr) (stT_no f hold hi) hold
      rw [thr_step b f hold hlt] at h20
      have h21 := f21 b hr.base hr.valid k hkl (by have := anc_len8 hr hkl; omega)
      rw [← hk, show (anc b.types k).length = (pth b.types f i).length by rw [pth_len hr i i (Nat.le_refl _) hlt, typ_at hx, hk, Int.toNat_natCast]] at h21
      have h22 := f22 b f hr i hlt
      have hb2 := fun H => b2s_U H (keyU (fkL b f i))
      have h23 := f23 f f (by omega)
      rw [show same f f = true from tell_pos rfl] at h23
      have hsuc := stT_succ f hold i
      have hA : thrA b f (stT f hold i).at' i = ⟨movS b f (stT f hold i).at' i, t.name, ((pth b.types f i).length : Int), ⟨(keyU (fkL b f i)).toArray⟩, x.data⟩ := by
        have h1 : (ansB b f [] i).seg = t.name := by
          show (tyOf b.types (typ f (i : Int))).name = t.name
          rw [typ_at hx, hk, tyOf_at ht]
        unfold thrA an1
        rw [h1, dat_none b f i hx]; rfl
      rw [hA] at h20
      have hmv := movS_cases b f (stT f hold i).at' i
      generalize movS b f (stT f hold i).at' i = mv at *
      generalize stT f hold i = s at *
      generalize stT f hold (i + 1) = s2 at *
      subst hsuc
      generalize nDo hold = d at *
      generalize keyU (fkL b f i) = ky at *
      have hcu : (eU ky).cells = [eU ky] := rfl
      have htu : (eU ky).isTup = false := rfl
      simp only [eBase, eSte, rSte, eAn, rAn, rCz, bBase, bSte, bCz] at h20 h21 h22 ⊢
      rcases hmv with rfl | rfl | rfl
      all_goals
        simp only [c4_l0, hE, hil, hfln, h20, hax, rItem, hat, rTy, h21, h22, hcu, htu, hb2, h23, at_3a, set_3a, at_3b, set_3b, lit_no, hw, cells_eItems, isTup_eItems, beq_self_eq_true, evX, Int.reduceEq, Int.reduceLT, Int.reduceLE, Nat.reduceMul, Nat.reduceMod, evW, fn_eq, evR, Nat.reduceAdd, Nat.reduceLT, Nat.reduceLeDiff, reduceIte, Nat.reduceEqDiff, reduceCtorEq, argEnv, eq_self, if_true, if_false]
        refine q_next (i + 1, ?_) (by rfl) ?_ hlt (by simp only; omega) fun r h => h
        rotate_left
        · simp only [stT_succ, rSte]
          rfl
    · have he : i = f.length := by omega
      have hil : ¬ (i : Int) < (f.length : Int) := by omega
      subst he
      simp only [bBase, bSte, bCz, rSte, rCz]
      simp only [c4_l0, hE, hil, hfln, Int.lt_irrefl, evX, Int.reduceEq, Int.reduceLT, Int.reduceLE, Nat.reduceMul, Nat.reduceMod, evW, fn_eq, evR, Nat.reduceAdd, Nat.reduceLT, Nat.reduceLeDiff, reduceIte, Nat.reduceEqDiff, reduceCtorEq, argEnv, eq_self, if_true, if_false]
      exact q_exit ⟨_, G, rfl, by rfl⟩
set_option maxHeartbeats 16000000 in
theorem f4 (b : Base) (hb : b.Ok) (f : List Item) (hf : f.length < 9223372036854775807) (hold : Bool) : ∃ H', evC cprog 4 [eBase b, eItems f, .bool hold] [] = some (.bool true, H') := by
  have h11 := f11 b hb f hf
  have h10 := f10
  have h19 := fun H => f19 b hb f hf .nils [] (by simp) H (nil_slat H)
  simp only [eBase] at h11 h19
  rw [evC_fn at4]
  cases hss : small b f with
  | false =>
    simp only [c4, eBase, h10, h11, hss, evX, Int.reduceEq, Int.reduceLT, Int.reduceLE, Nat.reduceMul, Nat.reduceMod, evW, fn_eq, evR, Nat.reduceAdd, Nat.reduceLT, Nat.reduceLeDiff, reduceIte, Nat.reduceEqDiff, reduceCtorEq, argEnv, eq_self, if_true, if_false]
    all_goals exact ⟨_, rfl⟩
  | true =>
    by_cases he : errF b f [] = 0
    case neg =>
      have he' : (errF b f [] = 0) = False := eq_false he
      simp only [c4, eBase, h10, h11, h19, hss, he', evX, Int.reduceEq, Int.reduceLT, Int.reduceLE, Nat.reduceMul, Nat.reduceMod, evW, fn_eq, evR, Nat.reduceAdd, Nat.reduceLT, Nat.reduceLeDiff, reduceIte, Nat.reduceEqDiff, reduceCtorEq, argEnv, eq_self, if_true, if_false]
      all_goals exact ⟨_, rfl⟩
    obtain ⟨hr, _⟩ := errF_zero hb he
    have hfl := hr.len
    rw [he] at h19
    have h12 := f12 b hb f (by omega)
    have hfe : forE b f = 0 := by unfold forE; rw [hr.valid, hr.forest, if_pos rfl, if_pos rfl]
    have hfs : fstS b f = staF f := if_pos hfe
    rw [hfe, hfs] at h12
    have h20 := f20z b (stT f hold f.length) (by rw [stT_items]; exact hr) (stT_no f hold (Nat.le_refl _)) hold
    rw [thr_last] at h20
    have h16 := f16 (staF f) (staF f) hf
    rw [sameS_self] at h16
    have hsg := eqsAn (sayA sGB)
    have hl4 := l4 b f hr hold
    have hnr2 : noRef0 (eItems f) = true := rfl
    generalize stT f hold f.length = s at *
    simp only [eBase, eSte, rSte, staF, eAn, rAn, sayA, sGB, rCz] at h12 h20 h16 hsg
    cases hold
    all_goals
      simp only [nDo, if_true, if_false, Bool.false_eq_true, sGN, sGHN] at h20
      simp only [c4, eBase, h10, h11, h19, hss, h12, hnr2, cells_eItems, isTup_eItems, evX, Int.reduceEq, Int.reduceLT, Int.reduceLE, Nat.reduceMul, Nat.reduceMod, evW, fn_eq, evR, Nat.reduceAdd, Nat.reduceLT, Nat.reduceLeDiff, reduceIte, Nat.reduceEqDiff, reduceCtorEq, argEnv, eq_self, if_true, if_false]
      generalize hz : itLim _ _ = z
      obtain ⟨T, G, rfl, hT⟩ := hl4 _ (by rfl) (by simp [bBase, bSte, bCz, rSte, rCz, staF, nDo, sGN, sGHN] <;> rfl) z hz
      clear hz
      simp only [bBase, bSte, bCz, rSte, rCz, nDo, if_true, if_false, Bool.false_eq_true, sGN, sGHN]
      simp only [hT, eSte, rSte, h10, h12, h20, h16, hsg, hnr2, cells_eItems, isTup_eItems, at_3a, set_3a, at_3b, set_3b, evX, Int.reduceEq, Int.reduceLT, Int.reduceLE, Nat.reduceMul, Nat.reduceMod, evW, fn_eq, evR, Nat.reduceAdd, Nat.reduceLT, Nat.reduceLeDiff, reduceIte, Nat.reduceEqDiff, reduceCtorEq, argEnv, eq_self, if_true, if_false]
      all_goals exact ⟨_, rfl⟩
end Go.Proofs.YtbdpceigmnpoaaaGreatDoor.Code
namespace Go.Proofs.YtbdpceigmnpoaaaGreatDoor.Pure
open Go.Proofs.YtbdpceigmnpoaaaGreatDoor.Ev Go.Proofs.YtbdpceigmnpoaaaGreatDoor.Code
theorem CallThrough (a0 : AV) (t0 : ArgTy true [.str, .int .i64, .sl [.str, .int .i64, .int .i64, .int .i64, .sl [.str, .int .i64, .int .i64], .int .i64, .bool, .bool], .sl [.str, .int .i64, .int .i64, .str]] a0)
    (a1 : AV) (t1 : ArgTy false [.sl [.int .i64, .str]] a1) (a2 : AV) (t2 : ArgTy false [.bool] a2) : ∃ H', evC cprog 4 [a0, a1, a2] [] = some (.bool true, H') := by
  obtain ⟨b, rfl, hb⟩ := open_Base t0
  obtain ⟨f, rfl, hf⟩ := open_Items t1
  have h : HasL [.bool] [a2] := t2
  simp only [HasL.eq_2, HasL.eq_1, Has] at h
  obtain ⟨x, xs, he, ⟨c, rfl⟩, rfl⟩ := h
  cases he
  exact f4 b hb f hf c
end Go.Proofs.YtbdpceigmnpoaaaGreatDoor.Pure

