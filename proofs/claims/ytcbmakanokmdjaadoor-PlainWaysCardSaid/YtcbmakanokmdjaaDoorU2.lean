/- Texts of ours, joined into one file; each begins with its own remark. -/
import Derived.Test.YtcbmakanokmdjaaDoorU1
import Derived.Test.YtcbmakanokmdjaaDoorEvZ
import Derived.Test.YtcbmakanokmdjaaDoorEvY
import Derived.Test.YtcbmakanokmdjaaDoorCodeB
import Derived.Test.YtcbmakanokmdjaaDoorRepU
/- plain: what is asked of bases, forests and places; parents, depths and ends. -/
set_option linter.unusedSimpArgs false
set_option linter.unusedVariables false
namespace Go.Proofs.YtcbmakanokmdjaaDoor.Code
open Go.Proofs.YtcbmakanokmdjaaDoor.Ev

def outOf (f : List Item) (i : Int) : Bool := decide (i < 0) || decide ((f.length : Int) ≤ i)
noncomputable def errF (b : Base) (f : List Item) (l : List Int) : Int := if validB b = true then (if forestOk b.types f = true then (if l.any (outOf f) = true then 2 else 0) else 120) else 100
theorem slI {H : Heap} {a : AV} {l : List Int} (h : SlAt H 1 a (l.map rI)) {i : Nat} {n : Int} (hi : l[i]? = some n) : ∃ p, iaddrK 1 (some a) (some (.int .i64 (i : Int))) = some p ∧ ∀ X, loadK false 1 (H ++ X) (some p) = some (.int .i64 n) := by
  obtain ⟨_, p, h1, h2⟩ := h.get i (rI n) (by rw [List.getElem?_map, hi]; rfl)
  exact ⟨p, h1, fun X => h2.onex X⟩
theorem f47 (f : List Item) (i : Int) (b1 : Nat) (H : Heap) (h1 : Sits H b1 (bItems f)) : cal (evC cprog) false 47 [.int .i64 i, .ptr b1 0 1 0 0] H = some (.bool (outOf f i), H) := by
  rw [cal_of at47]
  have hlen := (sItems [] f).len
  simp only [List.length_map] at hlen
  have g1 := h1.at
  simp only [bItems] at g1
  simp only [c47, hlen, g1, evX, Int.reduceEq, Int.reduceLT, Int.reduceLE, Nat.reduceMul, Nat.reduceMod, evW, fn_eq, evR, Nat.reduceAdd, Nat.reduceLT, Nat.reduceLeDiff, reduceIte, Nat.reduceEqDiff, reduceCtorEq, argEnv, eq_self, if_true, if_false]
  repeat' ((first | rw [guardK_cases] | rw [condK_bool] | rw [guardD_cases]); split <;> simp only [c47, hlen, g1, evX, Int.reduceEq, Int.reduceLT, Int.reduceLE, Nat.reduceMul, Nat.reduceMod, evW, evR, Nat.reduceAdd, Nat.reduceLT, Nat.reduceLeDiff, reduceIte, Nat.reduceEqDiff, reduceCtorEq, argEnv, eq_self, if_true, if_false, *])
  all_goals (simp_all [outOf]; try omega)
theorem f26 (b : Base) (hb : b.Ok) (f : List Item) (a : AV) (hat : a.isTup = false) (l : List Int) (hl : l.length < 9223372036854775807) (H : Heap) (ha : SlAt H 1 a (l.map rI)) : cal (evC cprog) false 26 [eBase b, eItems f, a] H = some (.int .i64 (errF b f l), H) := by
  rw [cal_of at26]
  have h1 := f44 b hb
  simp only [eBase] at h1
  cases hv : validB b with
  | false =>
    simp only [c26, eBase, cells_eItems, isTup_eItems, h1, hv, evX, Int.reduceEq, Int.reduceLT, Int.reduceLE, Nat.reduceMul, Nat.reduceMod, evW, fn_eq, evR, Nat.reduceAdd, Nat.reduceLT, Nat.reduceLeDiff, reduceIte, Nat.reduceEqDiff, reduceCtorEq, argEnv, eq_self, if_true, if_false]
    simp [errF, hv]
  | true =>
    have h2 := f45 b (valid_tys hv) f
    simp only [eBase] at h2
    cases hf : forestOk b.types f with
    | false =>
      simp only [c26, eBase, cells_eItems, isTup_eItems, h1, hv, h2, hf, evX, Int.reduceEq, Int.reduceLT, Int.reduceLE, Nat.reduceMul, Nat.reduceMod, evW, fn_eq, evR, Nat.reduceAdd, Nat.reduceLT, Nat.reduceLeDiff, reduceIte, Nat.reduceEqDiff, reduceCtorEq, argEnv, eq_self, if_true, if_false]
      simp [errF, hv, hf]
    | true =>
      have h65 := containsFunc_ok (g := 59) at46 (indexFunc_ok (sz := 1) (ag := false) at59 rI (fun x => .int .i64 x) lI 47 [.ptr (H.length + 1) 0 1 0 0] (outOf f) (H ++ [bBase b, bItems f]) a l (ha.app _) hl fun x _ => f47 f x (H.length + 1) _ (.mk (by simp)))
      simp only [bBase, bItems] at h65
      cases hc : l.any (outOf f) with
      | false =>
        simp only [c26, eBase, cells_eItems, isTup_eItems, h1, hv, h2, hf, h65, hc, scal_ptr, hat, evX, Int.reduceEq, Int.reduceLT, Int.reduceLE, Nat.reduceMul, Nat.reduceMod, evW, fn_eq, evR, Nat.reduceAdd, Nat.reduceLT, Nat.reduceLeDiff, reduceIte, Nat.reduceEqDiff, reduceCtorEq, argEnv, eq_self, if_true, if_false]
        simp [errF, hv, hf, hc]
      | true =>
        simp only [c26, eBase, cells_eItems, isTup_eItems, h1, hv, h2, hf, h65, hc, scal_ptr, hat, evX, Int.reduceEq, Int.reduceLT, Int.reduceLE, Nat.reduceMul, Nat.reduceMod, evW, fn_eq, evR, Nat.reduceAdd, Nat.reduceLT, Nat.reduceLeDiff, reduceIte, Nat.reduceEqDiff, reduceCtorEq, argEnv, eq_self, if_true, if_false]
        simp [errF, hv, hf, hc]
theorem f10 (b : Base) (hb : b.Ok) (f : List Item) (hfl : f.length < 9223372036854775807) (a : AV) (l : List Int) (hl : l.length < 9223372036854775807) (H : Heap) (ha : SlAt H 1 a (l.map rI)) : cal (evC cprog) false 10 [eBase b, eItems f, a] H = some (.int .i64 (errF b f l), H) := by
  rw [cal_of at10]
  have h1 := f31 b hb
  simp only [eBase] at h1
  have hlen := (sItems [] f).len
  have hlen' := ha.len
  simp only [List.length_map] at hlen hlen'
  cases hv : validB b with
  | false =>
    simp only [c10, eBase, h1, hv, evX, Int.reduceEq, Int.reduceLT, Int.reduceLE, Nat.reduceMul, Nat.reduceMod, evW, fn_eq, evR, Nat.reduceAdd, Nat.reduceLT, Nat.reduceLeDiff, reduceIte, Nat.reduceEqDiff, reduceCtorEq, argEnv, eq_self, if_true, if_false]
    simp [errF, hv]
  | true =>
    have h2 := f32 b (valid_tys hv) f
    simp only [eBase] at h2
    cases hf : forestOk b.types f with
    | false =>
      simp only [c10, eBase, h1, hv, h2, hf, evX, Int.reduceEq, Int.reduceLT, Int.reduceLE, Nat.reduceMul, Nat.reduceMod, evW, fn_eq, evR, Nat.reduceAdd, Nat.reduceLT, Nat.reduceLeDiff, reduceIte, Nat.reduceEqDiff, reduceCtorEq, argEnv, eq_self, if_true, if_false]
      simp [errF, hv, hf]
    | true =>
      simp only [c10, eBase, h1, hv, h2, hf, evX, Int.reduceEq, Int.reduceLT, Int.reduceLE, Nat.reduceMul, Nat.reduceMod, evW, fn_eq, evR, Nat.reduceAdd, Nat.reduceLT, Nat.reduceLeDiff, reduceIte, Nat.reduceEqDiff, reduceCtorEq, argEnv, eq_self, if_true, if_false]
      generalize hz : itLim _ _ = z
      have L := all_rule l (fun i => !outOf f i) [1, 2, 7] (fun i => [(1, eItems f), (2, a), (7, .int .i64 (i : Int))]) H [bBase b] (evCode (evC cprog) itLim c10_l0) (fun c T => c = .exit 1) (fun c T => c = .ret ∧ get T 6 = some (.int .i64 2))
        (fun i x hx E G hE => by
          have hlt : i < l.length := (List.getElem?_eq_some_iff.1 hx).1
          have hi : (i : Int) < (l.length : Int) := by omega
          obtain ⟨p, g1, g2⟩ := slI ha hx
          have hw := wrapS hlt hl
          by_cases n1 : x < 0
          · simp only [c10_l0, hE, hi, hlen', g1, g2, n1, evX, Int.reduceEq, Int.reduceLT, Int.reduceLE, Nat.reduceMul, Nat.reduceMod, evW, fn_eq, evR, Nat.reduceAdd, Nat.reduceLT, Nat.reduceLeDiff, reduceIte, Nat.reduceEqDiff, reduceCtorEq, argEnv, eq_self, if_true, if_false]
            exact Sc.ret (by simp [outOf, n1]) ⟨rfl, rfl⟩
          by_cases n2 : (f.length : Int) ≤ x
          · simp only [c10_l0, hE, hi, hlen', hlen, g1, g2, n1, n2, evX, Int.reduceEq, Int.reduceLT, Int.reduceLE, Nat.reduceMul, Nat.reduceMod, evW, fn_eq, evR, Nat.reduceAdd, Nat.reduceLT, Nat.reduceLeDiff, reduceIte, Nat.reduceEqDiff, reduceCtorEq, argEnv, eq_self, if_true, if_false]
            exact Sc.ret (by simp [outOf, n2]) ⟨rfl, rfl⟩
          · simp only [c10_l0, hE, hi, hlen', hlen, g1, g2, n1, n2, hw, evX, Int.reduceEq, Int.reduceLT, Int.reduceLE, Nat.reduceMul, Nat.reduceMod, evW, fn_eq, evR, Nat.reduceAdd, Nat.reduceLT, Nat.reduceLeDiff, reduceIte, Nat.reduceEqDiff, reduceCtorEq, argEnv, eq_self, if_true, if_false]
            exact Sc.next (by simp [outOf]; omega) (by rfl))
        (fun E G hE => by
          simp only [c10_l0, hE, hlen', Int.lt_irrefl, evX, Int.reduceEq, Int.reduceLT, Int.reduceLE, Nat.reduceMul, Nat.reduceMod, evW, fn_eq, evR, Nat.reduceAdd, Nat.reduceLT, Nat.reduceLeDiff, reduceIte, Nat.reduceEqDiff, reduceCtorEq, argEnv, eq_self, if_true, if_false]
          exact .exit (K := [bBase b]) rfl) _ [] (by rfl) (by simp [bBase]) z hz
      rcases L with ⟨ha, c, T, G, rfl, _, rfl⟩ | ⟨ha, c, T, G, rfl, _, rfl, hT⟩
      · simp only [evX, Int.reduceEq, Int.reduceLT, Int.reduceLE, Nat.reduceMul, Nat.reduceMod, evW, fn_eq, evR, Nat.reduceAdd, Nat.reduceLT, Nat.reduceLeDiff, reduceIte, Nat.reduceEqDiff, reduceCtorEq, argEnv, eq_self, if_true, if_false]
        have : l.any (outOf f) = false := by rw [List.any_eq_false]; intro x hx; have := List.all_eq_true.1 ha x hx; simpa using this
        simp [errF, hv, hf, this]
      · simp only [hT, evX, Int.reduceEq, Int.reduceLT, Int.reduceLE, Nat.reduceMul, Nat.reduceMod, evW, fn_eq, evR, Nat.reduceAdd, Nat.reduceLT, Nat.reduceLeDiff, reduceIte, Nat.reduceEqDiff, reduceCtorEq, argEnv, eq_self, if_true, if_false]
        have : l.any (outOf f) = true := by
          obtain ⟨x, hx, h⟩ := List.all_eq_false.1 ha
          rw [List.any_eq_true]; exact ⟨x, hx, by simpa using h⟩
        simp [errF, hv, hf, this]
theorem f33 (b : Base) (f : List Item) (hr : Right b f) (i : Nat) (hi : i < f.length) (H : Heap) : cal (evC cprog) false 33 [eBase b, eItems f, .int .i64 (i : Int)] H = some (.int .i64 (par b.types f i), H) := by
  rw [cal_of at33]
  obtain ⟨x, k, t, hx, hk, hkl, ht, _⟩ := hr.item hi
  have ha := aItem hx
  have hat := aTy ht
  rw [← hk] at hat
  have hl := hr.len
  rcases hr.par hx hk ht with ⟨h1, h2, _⟩ | ⟨p, h1, h2, h3, h4, h5, h6⟩
  · rw [h2]
    simp only [c33, eBase, ha, hat, rItem, rTy, h1, evX, Int.reduceEq, Int.reduceLT, Int.reduceLE, Nat.reduceMul, Nat.reduceMod, evW, fn_eq, evR, Nat.reduceAdd, Nat.reduceLT, Nat.reduceLeDiff, reduceIte, Nat.reduceEqDiff, reduceCtorEq, argEnv, eq_self, if_true, if_false]
  · rw [h1]
    have n0 : ¬ t.parent < 0 := by omega
    have hw : IntKind.i64.wrap ((i : Int) - 1) = (i : Int) - 1 := wrap_i64 (by omega) (by omega)
    simp only [c33, eBase, ha, hat, rItem, rTy, n0, hw, evX, Int.reduceEq, Int.reduceLT, Int.reduceLE, Nat.reduceMul, Nat.reduceMod, evW, fn_eq, evR, Nat.reduceAdd, Nat.reduceLT, Nat.reduceLeDiff, reduceIte, Nat.reduceEqDiff, reduceCtorEq, argEnv, eq_self, if_true, if_false]
    generalize hz : itLim _ _ = z
    have hlast : lastTo f t.parent i = (p : Int) := by
      have e : par b.types f i = lastTo f t.parent i := by unfold par; rw [typ_at hx, hk, tpar_at ht, if_neg n0]
      rw [← e, h1]
    have L := loop_rule (σ := Int) (m := [1, 2, 7]) (env := fun k => [(1, eItems f), (2, .int .i64 k), (7, .int .i64 t.parent)]) (hp := fun _ => H ++ [bBase b])
      (P := fun k r => ∃ T, r = (.exit 0, T, H ++ [bBase b]) ∧ get T 2 = some (.int .i64 (p : Int))) (mu := fun k => (k + 1).toNat)
      (I := fun k => (p : Int) ≤ k ∧ k < (i : Int) ∧ lastTo f t.parent (k + 1).toNat = (p : Int)) (evCode (evC cprog) itLim c33_l0) ?_ ((i : Int) - 1) _ ⟨by omega, by omega, by rw [show ((i : Int) - 1 + 1).toNat = i by omega]; exact hlast⟩ (by rfl) (by simp [bBase]) z hz
    · obtain ⟨_, rfl, T, rfl, hT⟩ := L
      simp only [hT, evX, Int.reduceEq, Int.reduceLT, Int.reduceLE, Nat.reduceMul, Nat.reduceMod, evW, fn_eq, evR, Nat.reduceAdd, Nat.reduceLT, Nat.reduceLeDiff, reduceIte, Nat.reduceEqDiff, reduceCtorEq, argEnv, eq_self, if_true, if_false]
    · intro k ⟨i1, i2, i3⟩ E hE
      obtain ⟨j, rfl⟩ : ∃ j : Nat, k = (j : Int) := ⟨k.toNat, by omega⟩
      obtain ⟨y, hy⟩ : ∃ y, f[j]? = some y := ⟨_, List.getElem?_eq_getElem (by omega)⟩
      have hay := aItem hy
      have hwj : IntKind.i64.wrap ((j : Int) - 1) = (j : Int) - 1 := wrap_i64 (by omega) (by omega)
      rw [show ((j : Int) + 1).toNat = j + 1 by omega, lastTo, typ_at hy] at i3
      by_cases hyt : y.type = t.parent
      · rw [if_pos hyt] at i3
        simp only [c33_l0, hE, hay, hyt, rItem, evX, Int.reduceEq, Int.reduceLT, Int.reduceLE, Nat.reduceMul, Nat.reduceMod, evW, fn_eq, evR, Nat.reduceAdd, Nat.reduceLT, Nat.reduceLeDiff, reduceIte, Nat.reduceEqDiff, reduceCtorEq, argEnv, eq_self, if_true, if_false]
        exact q_exit ⟨_, rfl, by rw [← i3]; rfl⟩
      · rw [if_neg hyt] at i3
        simp only [c33_l0, hE, hay, hyt, hwj, rItem, evX, Int.reduceEq, Int.reduceLT, Int.reduceLE, Nat.reduceMul, Nat.reduceMod, evW, fn_eq, evR, Nat.reduceAdd, Nat.reduceLT, Nat.reduceLeDiff, reduceIte, Nat.reduceEqDiff, reduceCtorEq, argEnv, eq_self, if_true, if_false]
        have := (lastTo_lt f t.parent j).2
        exact q_next ((j : Int) - 1) (by rfl) rfl ⟨by omega, by omega, by rw [show ((j : Int) - 1 + 1).toNat = j by omega]; exact i3⟩ (by omega) fun r h => h
theorem f56 (b : Base) (ht : tysOk b.types = true) (k : Nat) (hk : k < b.types.length) (h8 : b.types.length ≤ 1000) (H : Heap) : cal (evC cprog) false 56 [eBase b, .int .i64 (k : Int)] H = some (.int .i64 ((anc b.types k).length : Int), H) := by
  rw [cal_of at56]
  simp only [c56, eBase, evX, Int.reduceEq, Int.reduceLT, Int.reduceLE, Nat.reduceMul, Nat.reduceMod, evW, fn_eq, evR, Nat.reduceAdd, Nat.reduceLT, Nat.reduceLeDiff, reduceIte, Nat.reduceEqDiff, reduceCtorEq, argEnv, eq_self, if_true, if_false]
  generalize hz : itLim _ _ = z
  have key : ∀ H' : Heap, Sits H' H.length (bBase b) → ∀ st : St, keepEnv st.1 [1, 2, 5] = [(1, .int .i64 (k : Int)), (2, .ptr H.length 0 4 0 0), (5, .int .i64 0)] → st.2 = H' → ∀ z, itLim (evCode (evC cprog) itLim c56_l0) st = z → ∃ T, z = some (.exit 0, T, H') ∧ get T 5 = some (.int .i64 ((anc b.types k).length : Int)) := by
    intro H' hs st h1 h2 z hz
    simp only [bBase, Sits] at hs
    have hs0 := hs []
    simp only [List.append_nil] at hs0
    have L := loop_rule (σ := Int × Nat) (m := [1, 2, 5]) (env := fun s => [(1, .int .i64 s.1), (2, .ptr H.length 0 4 0 0), (5, .int .i64 (s.2 : Int))]) (hp := fun _ => H')
      (P := fun s r => ∃ T, r = (.exit 0, T, H') ∧ get T 5 = some (.int .i64 (((ancI b.types s.1).length + s.2 : Nat) : Int))) (mu := fun s => (s.1 + 1).toNat)
      (I := fun s => -1 ≤ s.1 ∧ s.1 < (b.types.length : Int) ∧ s.1 + s.2 ≤ 2000) (evCode (evC cprog) itLim c56_l0) ?_ ((k : Int), 0) st ⟨by simp only; omega, by simp only; omega, by simp only; omega⟩ h1 h2 z hz
    · obtain ⟨_, rfl, T, rfl, hT⟩ := L
      exact ⟨T, rfl, by simpa [ancI_nat] using hT⟩
    · intro ⟨t, n⟩ ⟨i1, i2, i3⟩ E hE
      simp only at i1 i2 i3 hE ⊢
      by_cases h0 : 0 ≤ t
      · obtain ⟨j, rfl⟩ : ∃ j : Nat, t = (j : Int) := ⟨t.toNat, by omega⟩
        obtain ⟨t, hj⟩ : ∃ t, b.types[j]? = some t := ⟨_, List.getElem?_eq_getElem (by omega)⟩
        have ha := aTy hj
        have hgt := tys_good ht j t (by omega) hj
        have hst := anc_step (tys_good ht) (by omega) hj
        have hw := wrapS (i := n) (n := 2001) (by omega) (by omega)
        simp only [c56_l0, hE, h0, ha, hs0, rTy, hw, evX, Int.reduceEq, Int.reduceLT, Int.reduceLE, Nat.reduceMul, Nat.reduceMod, evW, fn_eq, evR, Nat.reduceAdd, Nat.reduceLT, Nat.reduceLeDiff, reduceIte, Nat.reduceEqDiff, reduceCtorEq, argEnv, eq_self, if_true, if_false]
        refine q_next (t.parent, n + 1) (by rfl) rfl ⟨by omega, by simp only; omega, by simp only; omega⟩ (by simp only; omega) fun r h => ?_
        obtain ⟨T, h3, h⟩ := h
        refine ⟨T, h3, ?_⟩
        rw [ancI_nat, hst, h, List.length_append, List.length_singleton]
        simp only
        congr 3; omega
      · simp only [c56_l0, hE, h0, evX, Int.reduceEq, Int.reduceLT, Int.reduceLE, Nat.reduceMul, Nat.reduceMod, evW, fn_eq, evR, Nat.reduceAdd, Nat.reduceLT, Nat.reduceLeDiff, reduceIte, Nat.reduceEqDiff, reduceCtorEq, argEnv, eq_self, if_true, if_false]
        exact q_exit ⟨_, rfl, by rw [ancI_neg _ (by omega)]; simp [Ev.get]⟩
  obtain ⟨T, rfl, hT⟩ := key (H ++ [bBase b]) (.mk (by simp)) _ (by rfl) (by simp [bBase]) z hz
  simp only [hT, evX, Int.reduceEq, Int.reduceLT, Int.reduceLE, Nat.reduceMul, Nat.reduceMod, evW, fn_eq, evR, Nat.reduceAdd, Nat.reduceLT, Nat.reduceLeDiff, reduceIte, Nat.reduceEqDiff, reduceCtorEq, argEnv, eq_self, if_true, if_false]
end Go.Proofs.YtcbmakanokmdjaaDoor.Code

/- plain: ends of subtrees, of the program and of the document. -/
set_option linter.unusedSimpArgs false
set_option linter.unusedVariables false
namespace Go.Proofs.YtcbmakanokmdjaaDoor.Code
open Go.Proofs.YtcbmakanokmdjaaDoor.Ev

theorem anc_len8 {b : Base} {f : List Item} (h : Right b f) {k : Nat} (hk : k < b.types.length) : (anc b.types k).length ≤ 5 ∧ b.types.length ≤ 8 := by
  obtain ⟨t, ht⟩ : ∃ t, b.types[k]? = some t := ⟨_, List.getElem?_eq_getElem hk⟩
  have h1 := tell_true.1 h.tys k t ht
  simp only [tyAt, Bool.and_eq_true, decide_eq_true_eq] at h1
  have h2 := h.valid
  simp only [validB, areTys, Bool.and_eq_true, decide_eq_true_eq] at h2
  omega
theorem f35 (b : Base) (f : List Item) (hr : Right b f) (i : Nat) (hi : i < f.length) (H : Heap) : cal (evC cprog) false 35 [eBase b, eItems f, .int .i64 (i : Int)] H = some (.int .i64 (endOf b.types f i : Int), H) := by
  rw [cal_of at35]
  obtain ⟨x, k, t, hx, hk, hkl, ht, _⟩ := hr.item hi
  have ha := aItem hx
  have h8 := anc_len8 hr hkl
  have h67 := f56 b hr.tys k hkl (by omega)
  rw [← hk] at h67
  simp only [eBase] at h67
  have hl := hr.len
  have hlen := (sItems [] f).len
  simp only [List.length_map] at hlen
  have hw := wrapS (i := i) (n := 300) (by omega) (by omega)
  have hd : (anc b.types k).length = (pth b.types f i).length := by rw [pth_len hr i i (Nat.le_refl _) hi, typ_at hx, hk, Int.toNat_natCast]
  rw [hd] at h67
  simp only [c35, eBase, ha, rItem, h67, hw, evX, Int.reduceEq, Int.reduceLT, Int.reduceLE, Nat.reduceMul, Nat.reduceMod, evW, fn_eq, evR, Nat.reduceAdd, Nat.reduceLT, Nat.reduceLeDiff, reduceIte, Nat.reduceEqDiff, reduceCtorEq, argEnv, eq_self, if_true, if_false]
  generalize hz : itLim _ _ = z
  have key : ∀ H' : Heap, Sits H' H.length (bBase b) → ∀ st : St, keepEnv st.1 [1, 2, 3, 7] = [(1, eItems f), (2, .int .i64 ((i + 1 : Nat) : Int)), (3, .ptr H.length 0 4 0 0), (7, .int .i64 ((pth b.types f i).length : Int))] → st.2 = H' → ∀ z, itLim (evCode (evC cprog) itLim c35_l0) st = z →
      ∃ T, z = some (.exit 0, T, H') ∧ get T 2 = some (.int .i64 (endOf b.types f i : Int)) := by
    intro H' hs st h1 h2 z hz
    simp only [bBase, Sits] at hs
    have hs0 := hs []
    simp only [List.append_nil] at hs0
    have L := loop_rule (σ := Nat) (m := [1, 2, 3, 7]) (env := fun k => [(1, eItems f), (2, .int .i64 (k : Int)), (3, .ptr H.length 0 4 0 0), (7, .int .i64 ((pth b.types f i).length : Int))]) (hp := fun _ => H')
      (P := fun _ r => ∃ T, r = (.exit 0, T, H') ∧ get T 2 = some (.int .i64 (endOf b.types f i : Int))) (mu := fun k => f.length - k)
      (I := fun k => i < k ∧ k ≤ f.length ∧ ∀ j : Nat, i < j → j < k → (i : Int) ∈ pth b.types f j) (evCode (evC cprog) itLim c35_l0) ?_ (i + 1) st ⟨by omega, by omega, fun j h1 h2 => by omega⟩ h1 h2 z hz
    · obtain ⟨_, rfl, T, rfl, hT⟩ := L
      exact ⟨T, rfl, hT⟩
    · intro k ⟨i1, i2, i3⟩ E hE
      by_cases hkl : k < f.length
      · have hk1 : (k : Int) < (f.length : Int) := by omega
        obtain ⟨y, c, u, hy, hc, hcl, hu, _⟩ := hr.item hkl
        have hay := aItem hy
        have h67' := f56 b hr.tys c hcl (by omega)
        rw [← hc] at h67'
        simp only [eBase] at h67'
        have hd' : (anc b.types c).length = (pth b.types f k).length := by rw [pth_len hr k k (Nat.le_refl _) hkl, typ_at hy, hc, Int.toNat_natCast]
        rw [hd'] at h67'
        have hwk := wrapS (i := k) (n := 300) (by omega) (by omega)
        have hiff := below_len hr i1 hkl (IsEnd.way i3 i1 (Nat.le_refl _))
        by_cases hm : (i : Int) ∈ pth b.types f k
        · have hlt : ((pth b.types f i).length : Int) < ((pth b.types f k).length : Int) := by have := hiff.1 hm; omega
          simp only [c35_l0, hE, hk1, hlen, hay, hs0, rItem, h67', hlt, hwk, evX, Int.reduceEq, Int.reduceLT, Int.reduceLE, Nat.reduceMul, Nat.reduceMod, evW, fn_eq, evR, Nat.reduceAdd, Nat.reduceLT, Nat.reduceLeDiff, reduceIte, Nat.reduceEqDiff, reduceCtorEq, argEnv, eq_self, if_true, if_false]
          refine q_next (k + 1) (by rfl) rfl ⟨by omega, by omega, fun j h1 h2 => ?_⟩ (by omega) fun r h => h
          by_cases e : j = k
          · subst e; exact hm
          · exact i3 j h1 (by omega)
        · have hlt : ¬ ((pth b.types f i).length : Int) < ((pth b.types f k).length : Int) := fun h => hm (hiff.2 (by omega))
          simp only [c35_l0, hE, hk1, hlen, hay, hs0, rItem, h67', hlt, evX, Int.reduceEq, Int.reduceLT, Int.reduceLE, Nat.reduceMul, Nat.reduceMod, evW, fn_eq, evR, Nat.reduceAdd, Nat.reduceLT, Nat.reduceLeDiff, reduceIte, Nat.reduceEqDiff, reduceCtorEq, argEnv, eq_self, if_true, if_false]
          refine q_exit ⟨_, rfl, ?_⟩
          rw [(endOf_is b.types f hi).uniq ⟨i1, i2, i3, fun _ => hm⟩]; rfl
      · have hk1 : ¬ (k : Int) < (f.length : Int) := by omega
        simp only [c35_l0, hE, hk1, hlen, evX, Int.reduceEq, Int.reduceLT, Int.reduceLE, Nat.reduceMul, Nat.reduceMod, evW, fn_eq, evR, Nat.reduceAdd, Nat.reduceLT, Nat.reduceLeDiff, reduceIte, Nat.reduceEqDiff, reduceCtorEq, argEnv, eq_self, if_true, if_false]
        refine q_exit ⟨_, rfl, ?_⟩
        rw [(endOf_is b.types f hi).uniq ⟨i1, i2, i3, fun h => absurd h hkl⟩]; rfl
  obtain ⟨T, rfl, hT⟩ := key (H ++ [bBase b]) (.mk (by simp)) _ (by rfl) (by simp [bBase]) z hz
  simp only [hT, evX, Int.reduceEq, Int.reduceLT, Int.reduceLE, Nat.reduceMul, Nat.reduceMod, evW, fn_eq, evR, Nat.reduceAdd, Nat.reduceLT, Nat.reduceLeDiff, reduceIte, Nat.reduceEqDiff, reduceCtorEq, argEnv, eq_self, if_true, if_false]
theorem f34r (b : Base) (f : List Item) (hr : Right b f) (i : Nat) (hi : i < f.length) (H : Heap) : cal (evC cprog) false 34 [eBase b, eItems f, .int .i64 (i : Int)] H = some (.int .i64 (par b.types f i), H) := by
  obtain ⟨x, k, t, hx, hk, hkl, ht, _⟩ := hr.item hi
  exact f34 b f i x hx k t hk ht (by have := hr.len; omega) H
theorem f57 (b : Base) (f : List Item) (hr : Right b f) (p k : Nat) (hk : k < f.length) (H : Heap) : cal (evC cprog) false 57 [eBase b, eItems f, .int .i64 (p : Int), .int .i64 (k : Int)] H = some (.bool (decide ((p : Int) ∈ pthI b.types f (par b.types f k))), H) := by
  rw [cal_of at57]
  have h64 := f34r b f hr k hk
  simp only [eBase] at h64
  have hb := par_lt b.types f k
  simp only [c57, eBase, h64, evX, Int.reduceEq, Int.reduceLT, Int.reduceLE, Nat.reduceMul, Nat.reduceMod, evW, fn_eq, evR, Nat.reduceAdd, Nat.reduceLT, Nat.reduceLeDiff, reduceIte, Nat.reduceEqDiff, reduceCtorEq, argEnv, eq_self, if_true, if_false]
  generalize hz : itLim _ _ = z
  have key : ∀ H' : Heap, Sits H' H.length (bBase b) → ∀ st : St, keepEnv st.1 [1, 2, 3, 4] = [(1, eItems f), (2, .int .i64 (p : Int)), (3, .int .i64 (par b.types f k)), (4, .ptr H.length 0 4 0 0)] → st.2 = H' → ∀ z, itLim (evCode (evC cprog) itLim c57_l0) st = z →
      ∃ c T, z = some (c, T, H') ∧ (((p : Int) ∈ pthI b.types f (par b.types f k) ∧ c = .ret ∧ get T 8 = some (.bool true)) ∨ ((p : Int) ∉ pthI b.types f (par b.types f k) ∧ c = .exit 0)) := by
    intro H' hs st h1 h2 z hz
    simp only [bBase, Sits] at hs
    have hs0 := hs []
    simp only [List.append_nil] at hs0
    have L := loop_rule (σ := Int) (m := [1, 2, 3, 4]) (env := fun k => [(1, eItems f), (2, .int .i64 (p : Int)), (3, .int .i64 k), (4, .ptr H.length 0 4 0 0)]) (hp := fun _ => H')
      (P := fun k r => ∃ c T, r = (c, T, H') ∧ (((p : Int) ∈ pthI b.types f k ∧ c = .ret ∧ get T 8 = some (.bool true)) ∨ ((p : Int) ∉ pthI b.types f k ∧ c = .exit 0))) (mu := fun k => (k + 1).toNat)
      (I := fun k => -1 ≤ k ∧ k < (f.length : Int)) (evCode (evC cprog) itLim c57_l0) ?_ (par b.types f k) st ⟨by omega, by omega⟩ h1 h2 z hz
    · obtain ⟨_, rfl, c, T, rfl, hT⟩ := L
      exact ⟨c, T, rfl, hT⟩
    · intro k ⟨i1, i2⟩ E hE
      by_cases h0 : 0 ≤ k
      · obtain ⟨j, rfl⟩ : ∃ j : Nat, k = (j : Int) := ⟨k.toNat, by omega⟩
        by_cases e : j = p
        · subst e
          simp only [c57_l0, hE, h0, evX, Int.reduceEq, Int.reduceLT, Int.reduceLE, Nat.reduceMul, Nat.reduceMod, evW, fn_eq, evR, Nat.reduceAdd, Nat.reduceLT, Nat.reduceLeDiff, reduceIte, Nat.reduceEqDiff, reduceCtorEq, argEnv, eq_self, if_true, if_false]
          exact q_ret ⟨_, _, rfl, .inl ⟨by rw [pthI_nat]; exact pth_self _ _ _, rfl, by rfl⟩⟩
        · have e' : ¬ (j : Int) = (p : Int) := by omega
          have h64 := f34r b f hr j (by omega)
          simp only [eBase] at h64
          have hb := par_lt b.types f j
          simp only [c57_l0, hE, h0, e', hs0, h64, evX, Int.reduceEq, Int.reduceLT, Int.reduceLE, Nat.reduceMul, Nat.reduceMod, evW, fn_eq, evR, Nat.reduceAdd, Nat.reduceLT, Nat.reduceLeDiff, reduceIte, Nat.reduceEqDiff, reduceCtorEq, argEnv, eq_self, if_true, if_false]
          refine q_next (par b.types f j) (by rfl) rfl (by omega) (by omega) fun r h => ?_
          obtain ⟨c, T, h3, h⟩ := h
          refine ⟨c, T, h3, ?_⟩
          rw [pthI_nat, pth_eq _ _ (by omega)]
          have e2 : ¬ (p : Int) = (j : Int) := by omega
          simpa [e2] using h
      · simp only [c57_l0, hE, h0, evX, Int.reduceEq, Int.reduceLT, Int.reduceLE, Nat.reduceMul, Nat.reduceMod, evW, fn_eq, evR, Nat.reduceAdd, Nat.reduceLT, Nat.reduceLeDiff, reduceIte, Nat.reduceEqDiff, reduceCtorEq, argEnv, eq_self, if_true, if_false]
        exact q_exit ⟨_, _, rfl, .inr ⟨by rw [pthI_neg _ _ (by omega)]; simp, rfl⟩⟩
  obtain ⟨c, T, rfl, hT⟩ := key (H ++ [bBase b]) (.mk (by simp)) _ (by rfl) (by simp [bBase]) z hz
  rcases hT with ⟨h, rfl, hT⟩ | ⟨h, rfl⟩
  · simp only [hT, h, evX, Int.reduceEq, Int.reduceLT, Int.reduceLE, Nat.reduceMul, Nat.reduceMod, evW, fn_eq, evR, Nat.reduceAdd, Nat.reduceLT, Nat.reduceLeDiff, reduceIte, Nat.reduceEqDiff, reduceCtorEq, argEnv, eq_self, if_true, if_false]
  · simp only [h, evX, Int.reduceEq, Int.reduceLT, Int.reduceLE, Nat.reduceMul, Nat.reduceMod, evW, fn_eq, evR, Nat.reduceAdd, Nat.reduceLT, Nat.reduceLeDiff, reduceIte, Nat.reduceEqDiff, reduceCtorEq, argEnv, eq_self, if_true, if_false]
theorem below_iff {b : Base} {f : List Item} {i k : Nat} (hik : i < k) (hk : k < f.length) : (i : Int) ∈ pthI b.types f (par b.types f k) ↔ (i : Int) ∈ pth b.types f k := by
  rw [pth_eq _ _ hk]
  have : ¬ (i : Int) = (k : Int) := by omega
  simp [this]
theorem f36 (b : Base) (f : List Item) (hr : Right b f) (i : Nat) (hi : i < f.length) (H : Heap) : cal (evC cprog) false 36 [eBase b, eItems f, .int .i64 (i : Int)] H = some (.int .i64 (endOf b.types f i : Int), H) := by
  rw [cal_of at36]
  have hl := hr.len
  have hlen := (sItems [] f).len
  simp only [List.length_map] at hlen
  have hw := wrapS (i := i) (n := 300) (by omega) (by omega)
  simp only [c36, eBase, hw, evX, Int.reduceEq, Int.reduceLT, Int.reduceLE, Nat.reduceMul, Nat.reduceMod, evW, fn_eq, evR, Nat.reduceAdd, Nat.reduceLT, Nat.reduceLeDiff, reduceIte, Nat.reduceEqDiff, reduceCtorEq, argEnv, eq_self, if_true, if_false]
  generalize hz : itLim _ _ = z
  have key : ∀ H' : Heap, Sits H' H.length (bBase b) → ∀ st : St, keepEnv st.1 [1, 2, 3, 7] = [(1, eItems f), (2, .int .i64 (i : Int)), (3, .ptr H.length 0 4 0 0), (7, .int .i64 ((i + 1 : Nat) : Int))] → st.2 = H' → ∀ z, itLim (evCode (evC cprog) itLim c36_l0) st = z →
      ∃ T, z = some (.exit 0, T, H') ∧ get T 7 = some (.int .i64 (endOf b.types f i : Int)) := by
    intro H' hs st h1 h2 z hz
    simp only [bBase, Sits] at hs
    have hs0 := hs []
    simp only [List.append_nil] at hs0
    have L := loop_rule (σ := Nat) (m := [1, 2, 3, 7]) (env := fun k => [(1, eItems f), (2, .int .i64 (i : Int)), (3, .ptr H.length 0 4 0 0), (7, .int .i64 (k : Int))]) (hp := fun _ => H')
      (P := fun _ r => ∃ T, r = (.exit 0, T, H') ∧ get T 7 = some (.int .i64 (endOf b.types f i : Int))) (mu := fun k => f.length - k)
      (I := fun k => i < k ∧ k ≤ f.length ∧ ∀ j : Nat, i < j → j < k → (i : Int) ∈ pth b.types f j) (evCode (evC cprog) itLim c36_l0) ?_ (i + 1) st ⟨by omega, by omega, fun j h1 h2 => by omega⟩ h1 h2 z hz
    · obtain ⟨_, rfl, T, rfl, hT⟩ := L
      exact ⟨T, rfl, hT⟩
    · intro k ⟨i1, i2, i3⟩ E hE
      by_cases hkl : k < f.length
      · have hk1 : (k : Int) < (f.length : Int) := by omega
        have h68 := f57 b f hr i k hkl
        simp only [eBase] at h68
        have hwk := wrapS (i := k) (n := 300) (by omega) (by omega)
        have hiff := below_iff (b := b) i1 hkl
        by_cases hm : (i : Int) ∈ pth b.types f k
        · rw [decide_eq_true (hiff.2 hm)] at h68
          simp only [c36_l0, hE, hk1, hlen, hs0, h68, hwk, evX, Int.reduceEq, Int.reduceLT, Int.reduceLE, Nat.reduceMul, Nat.reduceMod, evW, fn_eq, evR, Nat.reduceAdd, Nat.reduceLT, Nat.reduceLeDiff, reduceIte, Nat.reduceEqDiff, reduceCtorEq, argEnv, eq_self, if_true, if_false]
          refine q_next (k + 1) (by rfl) rfl ⟨by omega, by omega, fun j h1 h2 => ?_⟩ (by omega) fun r h => h
          by_cases e : j = k
          · subst e; exact hm
          · exact i3 j h1 (by omega)
        · rw [decide_eq_false (fun h => hm (hiff.1 h))] at h68
          simp only [c36_l0, hE, hk1, hlen, hs0, h68, evX, Int.reduceEq, Int.reduceLT, Int.reduceLE, Nat.reduceMul, Nat.reduceMod, evW, fn_eq, evR, Nat.reduceAdd, Nat.reduceLT, Nat.reduceLeDiff, reduceIte, Nat.reduceEqDiff, reduceCtorEq, argEnv, eq_self, if_true, if_false]
          refine q_exit ⟨_, rfl, ?_⟩
          rw [(endOf_is b.types f hi).uniq ⟨i1, i2, i3, fun _ => hm⟩]; rfl
      · have hk1 : ¬ (k : Int) < (f.length : Int) := by omega
        simp only [c36_l0, hE, hk1, hlen, evX, Int.reduceEq, Int.reduceLT, Int.reduceLE, Nat.reduceMul, Nat.reduceMod, evW, fn_eq, evR, Nat.reduceAdd, Nat.reduceLT, Nat.reduceLeDiff, reduceIte, Nat.reduceEqDiff, reduceCtorEq, argEnv, eq_self, if_true, if_false]
        refine q_exit ⟨_, rfl, ?_⟩
        rw [(endOf_is b.types f hi).uniq ⟨i1, i2, i3, fun h => absurd h hkl⟩]; rfl
  obtain ⟨T, rfl, hT⟩ := key (H ++ [bBase b]) (.mk (by simp)) _ (by rfl) (by simp [bBase]) z hz
  simp only [hT, evX, Int.reduceEq, Int.reduceLT, Int.reduceLE, Nat.reduceMul, Nat.reduceMod, evW, fn_eq, evR, Nat.reduceAdd, Nat.reduceLT, Nat.reduceLeDiff, reduceIte, Nat.reduceEqDiff, reduceCtorEq, argEnv, eq_self, if_true, if_false]
end Go.Proofs.YtcbmakanokmdjaaDoor.Code

/- plain: Delete, of the program and of the document. -/
set_option linter.unusedSimpArgs false
set_option linter.unusedVariables false
namespace Go.Proofs.YtcbmakanokmdjaaDoor.Code
open Go.Proofs.YtcbmakanokmdjaaDoor.Ev

theorem plain_ints (l : List Int) : Plain (l.map rI) := fz_rI l
theorem errF_zero {b : Base} {f : List Item} {l : List Int} (hb : b.Ok) (h : errF b f l = 0) : Right b f ∧ ∀ i ∈ l, 0 ≤ i ∧ i < (f.length : Int) := by
  unfold errF at h
  split at h
  · rename_i hv
    split at h
    · rename_i hf
      split at h
      · cases h
      · rename_i ho
        refine ⟨⟨hb, hv, hf⟩, fun i hi => ?_⟩
        have := List.any_eq_false.1 (Bool.eq_false_iff.2 ho) i hi
        simp only [outOf, Bool.or_eq_true, decide_eq_true_eq] at this
        omega
    · cases h
  · cases h
theorem one_slat (H : Heap) (n : Int) (X : Heap) : SlAt (H ++ (X ++ [⟨0, true, 3, 1, [[.int .i64 n]]⟩])) 1 (.ref (H.length + X.length) 0 1 0 1) ([n].map rI) := by
  refine .ref (rows := [rI n]) (k := ⟨0, true, 3, 1, [[.int .i64 n]]⟩) ?_ fun i row hi => ?_
  · simp [curBlk, at_app]
  · cases i with
    | zero => simp at hi; subst hi; exact ⟨rfl, rfl⟩
    | succ i => simp at hi
end Go.Proofs.YtcbmakanokmdjaaDoor.Code

/- What a loop collects (generic). -/
set_option linter.unusedSimpArgs false
set_option linter.unusedVariables false
namespace Go.Proofs.YtcbmakanokmdjaaDoor.Code
open Go.Proofs.YtcbmakanokmdjaaDoor.Ev

/-- what is gathered, element by element -/
def gath {α β : Type} (g : Nat → α → List β) : Nat → List α → List β
  | _, [] => []
  | k, x :: l => g k x ++ gath g (k + 1) l
theorem gath_take {α β : Type} (g : Nat → α → List β) : ∀ (l : List α) (k i : Nat) (x : α), l[i]? = some x → gath g k (l.take (i + 1)) = gath g k (l.take i) ++ g (k + i) x
  | [], k, i, x, h => by simp at h
  | y :: l, k, 0, x, h => by
    simp at h; subst h
    simp [gath]
  | y :: l, k, i + 1, x, h => by
    rw [List.take_succ_cons, List.take_succ_cons, gath, gath, gath_take g l (k + 1) i x (by simpa using h), List.append_assoc, show k + 1 + i = k + (i + 1) by omega]
theorem gath_len {α β : Type} (g : Nat → α → List β) (h : ∀ i x, (g i x).length ≤ 1) : ∀ (l : List α) (k : Nat), (gath g k l).length ≤ l.length
  | [], k => by simp [gath]
  | y :: l, k => by
    have := gath_len g h l (k + 1)
    have := h k y
    simp only [gath, List.length_append, List.length_cons]; omega
/-- a loop that gathers into a slice that grows -/
theorem gath_rule {α β : Type} (l : List α) (g : Nat → α → List β) (enc : β → List AV) (m : List Nat) (env : Nat → AV → Env) (H : Heap) (sz ty : Nat) (body : St → Option (CX × St)) (x0 : Nat) (mo : List Nat) (eo : AV → Env)
    (step : ∀ i x, l[i]? = some x → ∀ E X rv, keepEnv E m = env i rv → Out H.length sz ty X rv ((gath g 0 (l.take i)).map enc) →
      ∃ T X' rv', body (E, H ++ X) = some (.normal, T, H ++ X') ∧ keepEnv T m = env (i + 1) rv' ∧ Out H.length sz ty X' rv' ((gath g 0 (l.take i)).map enc ++ (g i x).map enc))
    (fin : ∀ E X rv, keepEnv E m = env l.length rv → ∃ T, body (E, H ++ X) = some (.exit x0, T, H ++ X) ∧ keepEnv T mo = eo rv)
    (st : St) (X0 : Heap) (rv0 : AV) (h0 : Out H.length sz ty X0 rv0 []) (hE : keepEnv st.1 m = env 0 rv0) (hH : st.2 = H ++ X0) (z : Option (CX × St)) (hz : itLim body st = z) :
    ∃ T X rv, z = some (.exit x0, T, H ++ X) ∧ keepEnv T mo = eo rv ∧ Out H.length sz ty X rv ((gath g 0 l).map enc) := by
  have L := loop_rule (σ := Nat × Heap × AV) (m := m) (env := fun s => env s.1 s.2.2) (hp := fun s => H ++ s.2.1)
    (P := fun _ r => ∃ T X rv, r = (.exit x0, T, H ++ X) ∧ keepEnv T mo = eo rv ∧ Out H.length sz ty X rv ((gath g 0 l).map enc))
    (mu := fun s => l.length - s.1) (I := fun s => s.1 ≤ l.length ∧ Out H.length sz ty s.2.1 s.2.2 ((gath g 0 (l.take s.1)).map enc)) body ?_ (0, X0, rv0) st ⟨by simp, by simpa [gath] using h0⟩ hE hH z hz
  · obtain ⟨_, rfl, T, X, rv, rfl, h⟩ := L
    exact ⟨T, X, rv, rfl, h⟩
  · intro ⟨i, X, rv⟩ ⟨hi, hO⟩ E hE
    simp only at hi hO hE ⊢
    by_cases hlt : i < l.length
    · obtain ⟨x, hx⟩ : ∃ x, l[i]? = some x := ⟨_, List.getElem?_eq_getElem hlt⟩
      obtain ⟨T, X', rv', h1, h2, h3⟩ := step i x hx E X rv hE hO
      rw [h1]
      refine q_next (i + 1, X', rv') h2 rfl ⟨by omega, ?_⟩ (by simp only; omega) fun r h => h
      simp only [gath_take g l 0 i x hx, Nat.zero_add, List.map_append]
      exact h3
    · have : i = l.length := by omega
      subst this
      obtain ⟨T, h1, h2⟩ := fin E X rv hE
      rw [h1]
      rw [List.take_of_length_le (Nat.le_refl _)] at hO
      exact q_exit ⟨_, _, _, rfl, h2, hO⟩
/-- the same behind what was gathered before -/
theorem gath_pre {α β : Type} (l : List α) (g : Nat → α → List β) (enc : β → List AV) (pre : List (List AV)) (m : List Nat) (env : Nat → AV → Env) (H : Heap) (sz ty : Nat) (body : St → Option (CX × St)) (x0 : Nat) (mo : List Nat) (eo : AV → Env)
    (step : ∀ i x, l[i]? = some x → ∀ E X rv, keepEnv E m = env i rv → Out H.length sz ty X rv (pre ++ (gath g 0 (l.take i)).map enc) →
      ∃ T X' rv', body (E, H ++ X) = some (.normal, T, H ++ X') ∧ keepEnv T m = env (i + 1) rv' ∧ Out H.length sz ty X' rv' (pre ++ (gath g 0 (l.take i)).map enc ++ (g i x).map enc))
    (fin : ∀ E X rv, keepEnv E m = env l.length rv → ∃ T, body (E, H ++ X) = some (.exit x0, T, H ++ X) ∧ keepEnv T mo = eo rv)
    (st : St) (X0 : Heap) (rv0 : AV) (h0 : Out H.length sz ty X0 rv0 pre) (hE : keepEnv st.1 m = env 0 rv0) (hH : st.2 = H ++ X0) (z : Option (CX × St)) (hz : itLim body st = z) :
    ∃ T X rv, z = some (.exit x0, T, H ++ X) ∧ keepEnv T mo = eo rv ∧ Out H.length sz ty X rv (pre ++ (gath g 0 l).map enc) := by
  have L := loop_rule (σ := Nat × Heap × AV) (m := m) (env := fun s => env s.1 s.2.2) (hp := fun s => H ++ s.2.1)
    (P := fun _ r => ∃ T X rv, r = (.exit x0, T, H ++ X) ∧ keepEnv T mo = eo rv ∧ Out H.length sz ty X rv (pre ++ (gath g 0 l).map enc))
    (mu := fun s => l.length - s.1) (I := fun s => s.1 ≤ l.length ∧ Out H.length sz ty s.2.1 s.2.2 (pre ++ (gath g 0 (l.take s.1)).map enc)) body ?_ (0, X0, rv0) st ⟨by simp, by simpa [gath] using h0⟩ hE hH z hz
  · obtain ⟨_, rfl, T, X, rv, rfl, h⟩ := L
    exact ⟨T, X, rv, rfl, h⟩
  · intro ⟨i, X, rv⟩ ⟨hi, hO⟩ E hE
    simp only at hi hO hE ⊢
    by_cases hlt : i < l.length
    · obtain ⟨x, hx⟩ : ∃ x, l[i]? = some x := ⟨_, List.getElem?_eq_getElem hlt⟩
      obtain ⟨T, X', rv', h1, h2, h3⟩ := step i x hx E X rv hE hO
      rw [h1]
      refine q_next (i + 1, X', rv') h2 rfl ⟨by omega, ?_⟩ (by simp only; omega) fun r h => h
      simp only [gath_take g l 0 i x hx, Nat.zero_add, List.map_append]
      simpa only [List.append_assoc] using h3
    · have : i = l.length := by omega
      subst this
      obtain ⟨T, h1, h2⟩ := fin E X rv hE
      rw [h1]
      rw [List.take_of_length_le (Nat.le_refl _)] at hO
      exact q_exit ⟨_, _, _, rfl, h2, hO⟩
theorem app_row {n sz ty : Nat} {X : Heap} {rv : AV} {rows : List (List AV)} (h : Out n sz ty X rv rows) (H0 : Heap) (hn : n = H0.length) (bytes : Nat) (r : List AV) (hr : r.length = sz) (hb : (rows.length + 1) * bytes ≤ reach ∧ rows.length + 1 ≤ reach) :
    ∃ rv' X', appK ty sz bytes false (H0 ++ (X ++ [⟨0, true, ty, sz, [r]⟩])) (some rv) (some (.ref (n + X.length) 0 sz 0 1)) = some (rv', H0 ++ X') ∧ rv'.isTup = false ∧ Out n sz ty X' rv' (rows ++ [r]) ∧ Keeps n (X ++ [⟨0, true, ty, sz, [r]⟩]) rv X' ∧ Moved n (X ++ [⟨0, true, ty, sz, [r]⟩]) rv rv' := by
  subst hn
  exact (h.more [⟨0, true, ty, sz, [r]⟩]).app2 H0 rfl bytes _ [r] (by simp [srcRows, rowsOf, curBlk, at_app]) (by simpa using hr) (by simp) (by simpa using hb)
end Go.Proofs.YtcbmakanokmdjaaDoor.Code

/- siblings further apart (as in wip/logic/Yr) -/
set_option linter.unusedSimpArgs false
set_option linter.unusedVariables false
namespace Go.Proofs.YtcbmakanokmdjaaDoor.Code
open Go.Proofs.YtcbmakanokmdjaaDoor.Ev

theorem nil_slat (H : Heap) : SlAt H 1 .nils (([] : List Int).map rI) := out_slat (.nils 0 1 3 H) [] rfl (by simp)
end Go.Proofs.YtcbmakanokmdjaaDoor.Code

/- plain: the children of an item, and where a new one stands: mathematics. -/
set_option linter.unusedSimpArgs false
set_option linter.unusedVariables false
namespace Go.Proofs.YtcbmakanokmdjaaDoor.Code
open Go.Proofs.YtcbmakanokmdjaaDoor.Ev

/-- the children of an item (or the roots, for -1) up to a place -/
def chTo (b : Base) (f : List Item) (p : Int) (n : Nat) : List Nat := (List.range n).filter fun k => decide (par b.types f k = p)
def chl (b : Base) (f : List Item) (p : Int) : List Nat := chTo b f p f.length
theorem mem_chTo {b : Base} {f : List Item} {p : Int} {n k : Nat} : k ∈ chTo b f p n ↔ k < n ∧ par b.types f k = p := by
  simp [chTo]
theorem chTo_succ (b : Base) (f : List Item) (p : Int) (n : Nat) : chTo b f p (n + 1) = chTo b f p n ++ (if par b.types f n = p then [n] else []) := by
  unfold chTo
  rw [List.range_succ, List.filter_append]
  congr 1
  by_cases h : par b.types f n = p
  · rw [if_pos h]; simp [h]
  · rw [if_neg h]; simp [h]
theorem chTo_same {b : Base} {f : List Item} {p : Int} {m : Nat} : ∀ {n : Nat}, m ≤ n → (∀ j, m ≤ j → j < n → par b.types f j ≠ p) → chTo b f p n = chTo b f p m := by
  intro n
  induction n with
  | zero => intro h _; rw [show m = 0 by omega]
  | succ n ih =>
    intro h hj
    by_cases e : m = n + 1
    · rw [e]
    · rw [chTo_succ, if_neg (hj n (by omega) (by omega)), List.append_nil]
      exact ih (by omega) fun j h1 h2 => hj j h1 (by omega)
/-- where the children of an item end -/
def kidEnd (b : Base) (f : List Item) (p : Int) : Nat := if p < 0 then f.length else endOf b.types f p.toNat
theorem par_mem {b : Base} {f : List Item} {j : Nat} (hj : j < f.length) {p : Nat} (h : par b.types f j = (p : Int)) : (p : Int) ∈ pth b.types f j := by
  rw [pth_eq b.types f hj, h, pthI_nat]
  exact List.mem_append_left _ (pth_self ..)
theorem mem_par {b : Base} {f : List Item} {j : Nat} (hj : j < f.length) {a : Int} (h : a ∈ pth b.types f j) (hne : a ≠ (j : Int)) : 0 ≤ par b.types f j ∧ a ∈ pth b.types f (par b.types f j).toNat := by
  rw [pth_eq b.types f hj] at h
  rcases List.mem_append.1 h with h | h
  · by_cases h0 : par b.types f j < 0
    · rw [pthI_neg _ _ h0] at h; cases h
    · obtain ⟨q, hq⟩ : ∃ q : Nat, par b.types f j = (q : Int) := ⟨(par b.types f j).toNat, by omega⟩
      rw [hq, pthI_nat] at h
      exact ⟨by omega, by rw [hq]; exact h⟩
  · simp at h; exact absurd h hne
/-- the place behind a child's subtree: the next child, or the end -/
theorem next_child {b : Base} {f : List Item} (h : Right b f) {p : Int} (hp : -1 ≤ p) {k : Nat} (hk : k < f.length) (hkp : par b.types f k = p) :
    (∀ j, k < j → j < endOf b.types f k → par b.types f j ≠ p) ∧ (∀ e, e = endOf b.types f k → e < f.length → (p < 0 ∨ p ∈ pth b.types f e) → par b.types f e = p) := by
  have he := endOf_is b.types f hk
  have hpk := par_lt b.types f k
  refine ⟨fun j h1 h2 hc => ?_, fun e e0 hel hsub => ?_⟩
  · have hjl : j < f.length := by have := he.le; omega
    have hm := he.all j h1 h2
    obtain ⟨h3, h4⟩ := mem_par hjl hm (by omega)
    have := (pth_bound h4).2
    omega
  · subst e0
    have hno := he.no hel
    have hlt := he.lt
    have hpe := par_lt b.types f (endOf b.types f k)
    generalize endOf b.types f k = e at *
    apply Classical.byContradiction
    intro hc
    -- the parent is behind p
    have hq : p < par b.types f e := by
      rcases hsub with hs | hs
      · omega
      · obtain ⟨h3, h4⟩ := mem_par hel hs (by omega)
        have := (pth_bound h4).2
        omega
    obtain ⟨q, hqq⟩ : ∃ q : Nat, par b.types f e = (q : Int) := ⟨(par b.types f e).toNat, by omega⟩
    have hqe := par_mem hel hqq
    by_cases hqk : q ≤ k
    · have := way_between (Nat.le_refl _) h.ok e hel (q : Int) hqe k (by omega) (by omega)
      by_cases e1 : q = k
      · subst e1; exact hno hqe
      · obtain ⟨h3, h4⟩ := mem_par hk this (by omega)
        have := (pth_bound h4).2
        omega
    · have := he.all q (by omega) (by omega)
      exact hno (anc_trans _ hqe this)
theorem kid_first {b : Base} {f : List Item} (h : Right b f) {p : Int} (hp : -1 ≤ p) (hpl : p < (f.length : Int)) {s : Nat} (hs : (s : Int) = p + 1) : chTo b f p s = [] ∧ s ≤ kidEnd b f p ∧ (s < kidEnd b f p → par b.types f s = p) ∧ kidEnd b f p ≤ f.length := by
  have hno : chTo b f p s = [] := by
    rw [List.eq_nil_iff_forall_not_mem]
    intro k hk
    have := mem_chTo.1 hk
    have := par_lt b.types f k
    omega
  unfold kidEnd
  by_cases h0 : p < 0
  · rw [if_pos h0]
    have hs0 : s = 0 := by omega
    subst hs0
    refine ⟨hno, Nat.zero_le _, fun hl => ?_, Nat.le_refl _⟩
    have := par_lt b.types f 0
    omega
  · rw [if_neg h0]
    obtain ⟨q, rfl⟩ : ∃ q : Nat, p = (q : Int) := ⟨p.toNat, by omega⟩
    rw [Int.toNat_natCast]
    have he := endOf_is b.types f (i := q) (by omega)
    have hsq : s = q + 1 := by omega
    subst hsq
    refine ⟨hno, he.lt, fun hl => ?_, he.le⟩
    have hsl : q + 1 < f.length := by have := he.le; omega
    have hm := he.all (q + 1) (by omega) hl
    obtain ⟨h3, h4⟩ := mem_par hsl hm (by omega)
    have := (pth_bound h4).2
    have := par_lt b.types f (q + 1)
    omega
theorem kid_last {b : Base} {f : List Item} (h : Right b f) {p : Int} (hp : -1 ≤ p) (hpl : p < (f.length : Int)) : chl b f p = chTo b f p (kidEnd b f p) := by
  unfold chl kidEnd
  by_cases h0 : p < 0
  · rw [if_pos h0]
  · rw [if_neg h0]
    obtain ⟨q, rfl⟩ : ∃ q : Nat, p = (q : Int) := ⟨p.toNat, by omega⟩
    rw [Int.toNat_natCast]
    have he := endOf_is b.types f (i := q) (by omega)
    refine chTo_same he.le fun j h1 h2 hc => ?_
    have hm := par_mem h2 hc
    have hel : endOf b.types f q < f.length := by omega
    exact he.no hel (way_between (Nat.le_refl _) h.ok j h2 (q : Int) hm _ (by have := he.lt; omega) h1)
theorem kid_sub {b : Base} {f : List Item} {p : Int} (hp : -1 ≤ p) (hpl : p < (f.length : Int)) {e : Nat} (h1 : p < (e : Int)) (h2 : e < kidEnd b f p) : p < 0 ∨ p ∈ pth b.types f e := by
  unfold kidEnd at h2
  by_cases h0 : p < 0
  · exact .inl h0
  · rw [if_neg h0] at h2
    obtain ⟨q, rfl⟩ : ∃ q : Nat, p = (q : Int) := ⟨p.toNat, by omega⟩
    rw [Int.toNat_natCast] at h2
    exact .inr ((endOf_is b.types f (i := q) (by omega)).all e (by omega) h2)
theorem kid_end_le {b : Base} {f : List Item} (h : Right b f) {p : Int} (hp : -1 ≤ p) (hpl : p < (f.length : Int)) {k : Nat} (hk : k < kidEnd b f p) (hkp : par b.types f k = p) : endOf b.types f k ≤ kidEnd b f p := by
  have hkl : k < f.length := by
    have := (kid_first h hp hpl (s := (p + 1).toNat) (by omega)).2.2.2
    omega
  have he := endOf_is b.types f hkl
  unfold kidEnd at *
  by_cases h0 : p < 0
  · rw [if_pos h0]; exact he.le
  · rw [if_neg h0] at hk ⊢
    obtain ⟨q, rfl⟩ : ∃ q : Nat, p = (q : Int) := ⟨p.toNat, by omega⟩
    rw [Int.toNat_natCast] at *
    have hq := endOf_is b.types f (i := q) (by omega)
    apply Classical.byContradiction
    intro hc
    have hql : endOf b.types f q < f.length := by have := he.le; omega
    have hm := he.all (endOf b.types f q) hk (by omega)
    exact hq.no hql (anc_trans _ hm (par_mem hkl hkp))
/-- a step of the program's walk over children -/
theorem kid_step {b : Base} {f : List Item} (h : Right b f) {p : Int} (hp : -1 ≤ p) (hpl : p < (f.length : Int)) {k : Nat} (hk : k < kidEnd b f p) (hkp : par b.types f k = p) :
    k < endOf b.types f k ∧ endOf b.types f k ≤ kidEnd b f p ∧ (endOf b.types f k < kidEnd b f p → par b.types f (endOf b.types f k) = p) ∧ chTo b f p (endOf b.types f k) = chTo b f p k ++ [k] := by
  have hle := (kid_first h hp hpl (s := (p + 1).toNat) (by omega)).2.2.2
  have hkl : k < f.length := by omega
  have he := endOf_is b.types f hkl
  have h1 := kid_end_le h hp hpl hk hkp
  obtain ⟨h2, h3⟩ := next_child h hp hkl hkp
  have hpk := par_lt b.types f k
  have hlt := he.lt
  refine ⟨hlt, h1, fun h4 => h3 _ rfl (by omega) (kid_sub hp hpl (by omega) h4), ?_⟩
  rw [chTo_same (m := k + 1) (by omega) fun j a1 a2 => h2 j (by omega) a2, chTo_succ, if_pos hkp]
/- where a new one stands -/
end Go.Proofs.YtcbmakanokmdjaaDoor.Code

/- plain: the children of an item, and where a new one stands, of the program. -/
set_option linter.unusedSimpArgs false
set_option linter.unusedVariables false
namespace Go.Proofs.YtcbmakanokmdjaaDoor.Code
open Go.Proofs.YtcbmakanokmdjaaDoor.Ev

def nI (l : List Nat) : List Int := l.map fun (k : Nat) => (k : Int)
theorem nI_app (a b : List Nat) : nI (a ++ b) = nI a ++ nI b := by simp [nI]
theorem chTo_len (b : Base) (f : List Item) (p : Int) (n : Nat) : (chTo b f p n).length ≤ n := by
  unfold chTo
  have := List.length_filter_le (fun k => decide (par b.types f k = p)) (List.range n)
  simpa using this
theorem out_num {K X : Heap} {rv : AV} {l : List Int} (hO : Out K.length 1 3 X rv (l.map rI)) (hl : l.length ≤ 1000) (r : Int) : ∃ rv1 X1, appK 3 1 8 false (K ++ (X ++ [⟨0, true, 3, 1, [[.int .i64 r]]⟩])) (some rv) (some (.ref (K.length + X.length) 0 1 0 1)) = some (rv1, K ++ X1) ∧ rv1.isTup = false ∧ Out K.length 1 3 X1 rv1 ((l ++ [r]).map rI) := by
  obtain ⟨rv1, X1, a1, t1, O1⟩ := (hO.more [⟨0, true, 3, 1, [[.int .i64 r]]⟩]).app K rfl 8 (.ref (K.length + X.length) 0 1 0 1) [rI r] (by simp [srcRows, rowsOf, curBlk, ← List.append_assoc, rI]) (by simp [rI]) (by simp [reach]; omega)
  exact ⟨rv1, X1, a1, t1, by simpa using O1⟩
theorem f40 (b : Base) (f : List Item) (hr : Right b f) (p : Int) (hp : -1 ≤ p) (hpl : p < (f.length : Int)) (H : Heap) : cal (evC cprog) true 40 [eBase b, eItems f, .int .i64 p] H = some (eIs (nI (chl b f p)), H) := by
  rw [cal_of at40]
  have hfl := hr.len
  have hlen := (sItems [] f).len
  simp only [List.length_map] at hlen
  obtain ⟨K, hK⟩ : ∃ K : Heap, K = H ++ [bBase b] := ⟨_, rfl⟩
  have kt : ∀ Z, (K ++ Z).take H.length = H := fun Z => by rw [hK]; simp
  have kl : K.length = H.length + 1 := by rw [hK]; simp
  have kb : ∀ Z, (K ++ Z)[H.length]? = some (bBase b) := fun Z => by rw [hK]; simp
  obtain ⟨s, hs⟩ : ∃ s : Nat, (s : Int) = p + 1 := ⟨(p + 1).toNat, by omega⟩
  obtain ⟨k1, k2, k3, k4⟩ := kid_first hr hp hpl hs
  have L := fun (st : St) (hE : keepEnv st.1 [1, 3, 8, 9, 10] = [(1, eItems f), (3, .ptr H.length 0 4 0 0), (8, .int .i64 ((kidEnd b f p : Nat) : Int)), (9, .nils), (10, .int .i64 (s : Int))]) (hH : st.2 = K) (z : Option (CX × St)) (hz : itLim (evCode (evC cprog) itLim c40_l0) st = z) =>
    loop_rule (σ := Nat × Heap × AV) (m := [1, 3, 8, 9, 10]) (env := fun x => [(1, eItems f), (3, .ptr H.length 0 4 0 0), (8, .int .i64 ((kidEnd b f p : Nat) : Int)), (9, x.2.2), (10, .int .i64 (x.1 : Int))]) (hp := fun x => K ++ x.2.1)
    (P := fun _ r => ∃ T X rv, r = (.exit 0, T, K ++ X) ∧ keepEnv T [9] = [(9, rv)] ∧ Out K.length 1 3 X rv ((nI (chl b f p)).map rI))
    (mu := fun x => kidEnd b f p - x.1) (I := fun x => x.1 ≤ kidEnd b f p ∧ (x.1 < kidEnd b f p → par b.types f x.1 = p) ∧ Out K.length 1 3 x.2.1 x.2.2 ((nI (chTo b f p x.1)).map rI)) (evCode (evC cprog) itLim c40_l0) (by
      intro ⟨k, X, rv⟩ ⟨hk, hkp, hO⟩ E hE
      simp only at hk hkp hO hE ⊢
      by_cases hlt : k < kidEnd b f p
      · have hkl : k < f.length := by omega
        obtain ⟨s1, s2, s3, s4⟩ := kid_step hr hp hpl hlt (hkp hlt)
        have hii : (k : Int) < ((kidEnd b f p : Nat) : Int) := by omega
        have h63 := fun H => f35 b f hr k hkl H
        have hcl := chTo_len b f p k
        obtain ⟨rv1, X1, a1, t1, O1⟩ := out_num hO (by simp [nI]; omega) (k : Int)
        rw [show nI (chTo b f p k) ++ [(k : Int)] = nI (chTo b f p (endOf b.types f k)) by rw [s4, nI_app]; rfl] at O1
        simp only [bBase] at kb
        simp only [eBase] at h63
        generalize kidEnd b f p = e at *
        simp only [c40_l0, hE, hii, kb, a1, t1, h63, evX, Int.reduceEq, Int.reduceLT, Int.reduceLE, Nat.reduceMul, Nat.reduceMod, evW, fn_eq, evR, Nat.reduceAdd, Nat.reduceLT, Nat.reduceLeDiff, reduceIte, Nat.reduceEqDiff, reduceCtorEq, argEnv, eq_self, if_true, if_false]
        exact q_next (endOf b.types f k, X1, rv1) (by rfl) rfl ⟨s2, s3, O1⟩ (by simp only; omega) fun r h => h
      · have hii : ¬ (k : Int) < ((kidEnd b f p : Nat) : Int) := by omega
        have hke : k = kidEnd b f p := by omega
        rw [hke, ← kid_last hr hp hpl] at hO
        simp only [c40_l0, hE, hii, evX, Int.reduceEq, Int.reduceLT, Int.reduceLE, Nat.reduceMul, Nat.reduceMod, evW, fn_eq, evR, Nat.reduceAdd, Nat.reduceLT, Nat.reduceLeDiff, reduceIte, Nat.reduceEqDiff, reduceCtorEq, argEnv, eq_self, if_true, if_false]
        exact q_exit ⟨_, X, rv, rfl, by rfl, hO⟩) (s, [], .nils) st ⟨k2, k3, by rw [k1]; exact .nils ..⟩ hE (by simpa using hH) z hz
  by_cases h0 : (0 : Int) ≤ p
  · obtain ⟨q, rfl⟩ : ∃ q : Nat, p = (q : Int) := ⟨p.toNat, by omega⟩
    have h63 := fun H => f35 b f hr q (by omega) H
    have hke : kidEnd b f (q : Int) = endOf b.types f q := by unfold kidEnd; rw [if_neg (by omega)]; rfl
    rw [hke] at L
    have hw : IntKind.i64.wrap ((q : Int) + 1) = (s : Int) := by rw [wrap_i64 (by omega) (by omega)]; omega
    simp only [bBase] at kb hK
    simp only [eBase] at h63
    simp only [c40, eBase, hlen, h0, hw, h63, evX, Int.reduceEq, Int.reduceLT, Int.reduceLE, Nat.reduceMul, Nat.reduceMod, evW, fn_eq, evR, Nat.reduceAdd, Nat.reduceLT, Nat.reduceLeDiff, reduceIte, Nat.reduceEqDiff, reduceCtorEq, argEnv, eq_self, if_true, if_false]
    generalize hz : itLim _ _ = z
    obtain ⟨_, rfl, T, X, rv, rfl, hT, hO⟩ := L _ (by rfl) (by rw [hK]) z hz
    clear hz L
    obtain ⟨ids, g1, g2, g3⟩ := fz_out' hO K rfl (plain_ints _)
    have hsc := out_tup hO
    have ht := kt X
    generalize K ++ X = Z at *
    simp only [hT, hsc, evX, Int.reduceEq, Int.reduceLT, Int.reduceLE, Nat.reduceMul, Nat.reduceMod, evW, fn_eq, evR, Nat.reduceAdd, Nat.reduceLT, Nat.reduceLeDiff, reduceIte, Nat.reduceEqDiff, reduceCtorEq, argEnv, eq_self, if_true, if_false]
    exact frz_one g1 g3 ht (fun k hk => by have := g2 k hk; omega)
  · have hke : kidEnd b f p = f.length := by unfold kidEnd; rw [if_pos (by omega)]
    have hs0 : s = 0 := by omega
    subst hs0
    rw [hke] at L
    simp only [bBase] at kb hK
    simp only [c40, eBase, hlen, h0, evX, Int.reduceEq, Int.reduceLT, Int.reduceLE, Nat.reduceMul, Nat.reduceMod, evW, fn_eq, evR, Nat.reduceAdd, Nat.reduceLT, Nat.reduceLeDiff, reduceIte, Nat.reduceEqDiff, reduceCtorEq, argEnv, eq_self, if_true, if_false]
    generalize hz : itLim _ _ = z
    obtain ⟨_, rfl, T, X, rv, rfl, hT, hO⟩ := L _ (by rfl) (by rw [hK]) z hz
    clear hz L
    obtain ⟨ids, g1, g2, g3⟩ := fz_out' hO K rfl (plain_ints _)
    have hsc := out_tup hO
    have ht := kt X
    generalize K ++ X = Z at *
    simp only [hT, hsc, evX, Int.reduceEq, Int.reduceLT, Int.reduceLE, Nat.reduceMul, Nat.reduceMod, evW, fn_eq, evR, Nat.reduceAdd, Nat.reduceLT, Nat.reduceLeDiff, reduceIte, Nat.reduceEqDiff, reduceCtorEq, argEnv, eq_self, if_true, if_false]
    exact frz_one g1 g3 ht (fun k hk => by have := g2 k hk; omega)
end Go.Proofs.YtcbmakanokmdjaaDoor.Code

/- plain: where a new item stands, of the program: the walk. -/
set_option linter.unusedSimpArgs false
set_option linter.unusedVariables false
namespace Go.Proofs.YtcbmakanokmdjaaDoor.Code
open Go.Proofs.YtcbmakanokmdjaaDoor.Ev

end Go.Proofs.YtcbmakanokmdjaaDoor.Code

/- plain: where a new item stands, of the program: place. -/
set_option linter.unusedSimpArgs false
set_option linter.unusedVariables false
namespace Go.Proofs.YtcbmakanokmdjaaDoor.Code
open Go.Proofs.YtcbmakanokmdjaaDoor.Ev

end Go.Proofs.YtcbmakanokmdjaaDoor.Code

/- plain: where a new item stands, of the document. -/
set_option linter.unusedSimpArgs false
set_option linter.unusedVariables false
namespace Go.Proofs.YtcbmakanokmdjaaDoor.Code
open Go.Proofs.YtcbmakanokmdjaaDoor.Ev

def twT (b : Base) (f : List Item) (p t : Int) (n : Nat) : List Nat := (List.range n).filter fun k => decide (typ f (k : Int) = t) && decide (par b.types f k = p)
theorem twT_succ (b : Base) (f : List Item) (p t : Int) (n : Nat) : twT b f p t (n + 1) = twT b f p t n ++ (if typ f (n : Int) = t ∧ par b.types f n = p then [n] else []) := by
  unfold twT
  rw [List.range_succ, List.filter_append]
  congr 1
  by_cases h : typ f (n : Int) = t ∧ par b.types f n = p
  · rw [if_pos h]; simp [h.1, h.2]
  · rw [if_neg h]
    simp only [List.filter_cons, List.filter_nil]
    rw [if_neg]
    simpa using h
theorem twT_len (b : Base) (f : List Item) (p t : Int) (n : Nat) : (twT b f p t n).length ≤ n := by
  unfold twT
  have := List.length_filter_le (fun (k : Nat) => decide (typ f (k : Int) = t) && decide (par b.types f k = p)) (List.range n)
  simpa using this
set_option maxHeartbeats 4000000 in
theorem f42 (b : Base) (f : List Item) (hr : Right b f) (p t : Int) (H : Heap) : cal (evC cprog) true 42 [eBase b, eItems f, .int .i64 p, .int .i64 t] H = some (eIs (nI (twT b f p t f.length)), H) := by
  rw [cal_of at42]
  have hfl := hr.len
  have hlen := (sItems [] f).len
  simp only [List.length_map] at hlen
  obtain ⟨K, hK⟩ : ∃ K : Heap, K = H ++ [bBase b] := ⟨_, rfl⟩
  have kt : ∀ Z, (K ++ Z).take H.length = H := fun Z => by rw [hK]; simp
  have kl : K.length = H.length + 1 := by rw [hK]; simp
  have kb : ∀ Z, (K ++ Z)[H.length]? = some (bBase b) := fun Z => by rw [hK]; simp
  have L := fun (st : St) (hE : keepEnv st.1 [1, 2, 3, 4, 9, 10] = [(1, eItems f), (2, .int .i64 p), (3, .int .i64 t), (4, .ptr H.length 0 4 0 0), (9, .nils), (10, .int .i64 0)]) (hH : st.2 = K) (z : Option (CX × St)) (hz : itLim (evCode (evC cprog) itLim c42_l0) st = z) =>
    loop_rule (σ := Nat × Heap × AV) (m := [1, 2, 3, 4, 9, 10]) (env := fun x => [(1, eItems f), (2, .int .i64 p), (3, .int .i64 t), (4, .ptr H.length 0 4 0 0), (9, x.2.2), (10, .int .i64 (x.1 : Int))]) (hp := fun x => K ++ x.2.1)
    (P := fun _ r => ∃ T X rv, r = (.exit 0, T, K ++ X) ∧ keepEnv T [9] = [(9, rv)] ∧ Out K.length 1 3 X rv ((nI (twT b f p t f.length)).map rI))
    (mu := fun x => f.length - x.1) (I := fun x => x.1 ≤ f.length ∧ Out K.length 1 3 x.2.1 x.2.2 ((nI (twT b f p t x.1)).map rI)) (evCode (evC cprog) itLim c42_l0) (by
      intro ⟨k, X, rv⟩ ⟨hk, hO⟩ E hE
      simp only at hk hO hE ⊢
      by_cases hlt : k < f.length
      · obtain ⟨x, hx⟩ : ∃ x, f[k]? = some x := ⟨_, List.getElem?_eq_getElem hlt⟩
        have hii : (k : Int) < (f.length : Int) := by omega
        have hax := aItem hx
        have h64 := fun H => f34r b f hr k hlt H
        have hcl := twT_len b f p t k
        have hws : IntKind.i64.wrap ((k : Int) + 1) = ((k + 1 : Nat) : Int) := by rw [wrap_i64 (by omega) (by omega)]; omega
        obtain ⟨rv1, X1, a1, t1, O1⟩ := out_num hO (by simp [nI]; omega) (k : Int)
        have hst := twT_succ b f p t k
        rw [typ_at hx] at hst
        simp only [bBase] at kb
        simp only [eBase] at h64
        generalize par b.types f k = pk at *
        by_cases c1 : x.type = t
        · have c1' : (x.type = t) = True := eq_true c1
          by_cases c2 : pk = p
          · have c2' : (pk = p) = True := eq_true c2
            rw [if_pos ⟨c1, c2⟩] at hst
            rw [show nI (twT b f p t k) ++ [(k : Int)] = nI (twT b f p t (k + 1)) by rw [hst, nI_app]; rfl] at O1
            clear c1 c2 hst
            simp only [c42_l0, hE, hii, hlen, hax, rItem, c1', c2', kb, h64, a1, t1, hws, evX, Int.reduceEq, Int.reduceLT, Int.reduceLE, Nat.reduceMul, Nat.reduceMod, evW, fn_eq, evR, Nat.reduceAdd, Nat.reduceLT, Nat.reduceLeDiff, reduceIte, Nat.reduceEqDiff, reduceCtorEq, argEnv, eq_self, if_true, if_false]
            exact q_next (k + 1, X1, rv1) (by rfl) rfl ⟨by omega, O1⟩ (by simp only; omega) fun r h => h
          · have c2' : (pk = p) = False := eq_false c2
            rw [if_neg (fun h => c2 h.2), List.append_nil] at hst
            rw [← hst] at hO
            clear c1 c2 hst
            simp only [c42_l0, hE, hii, hlen, hax, rItem, c1', c2', kb, h64, hws, evX, Int.reduceEq, Int.reduceLT, Int.reduceLE, Nat.reduceMul, Nat.reduceMod, evW, fn_eq, evR, Nat.reduceAdd, Nat.reduceLT, Nat.reduceLeDiff, reduceIte, Nat.reduceEqDiff, reduceCtorEq, argEnv, eq_self, if_true, if_false]
            exact q_next (k + 1, X, rv) (by rfl) rfl ⟨by omega, hO⟩ (by simp only; omega) fun r h => h
        · have c1' : (x.type = t) = False := eq_false c1
          rw [if_neg (fun h => c1 h.1), List.append_nil] at hst
          rw [← hst] at hO
          clear c1 hst
          simp only [c42_l0, hE, hii, hlen, hax, rItem, c1', kb, hws, evX, Int.reduceEq, Int.reduceLT, Int.reduceLE, Nat.reduceMul, Nat.reduceMod, evW, fn_eq, evR, Nat.reduceAdd, Nat.reduceLT, Nat.reduceLeDiff, reduceIte, Nat.reduceEqDiff, reduceCtorEq, argEnv, eq_self, if_true, if_false]
          exact q_next (k + 1, X, rv) (by rfl) rfl ⟨by omega, hO⟩ (by simp only; omega) fun r h => h
      · have hii : ¬ (k : Int) < (f.length : Int) := by omega
        have hke : k = f.length := by omega
        rw [hke] at hO
        simp only [c42_l0, hE, hii, hlen, evX, Int.reduceEq, Int.reduceLT, Int.reduceLE, Nat.reduceMul, Nat.reduceMod, evW, fn_eq, evR, Nat.reduceAdd, Nat.reduceLT, Nat.reduceLeDiff, reduceIte, Nat.reduceEqDiff, reduceCtorEq, argEnv, eq_self, if_true, if_false]
        exact q_exit ⟨_, X, rv, rfl, by rfl, hO⟩) (0, [], .nils) st ⟨Nat.zero_le _, .nils ..⟩ hE (by simpa using hH) z hz
  simp only [bBase] at kb hK
  simp only [c42, eBase, evX, Int.reduceEq, Int.reduceLT, Int.reduceLE, Nat.reduceMul, Nat.reduceMod, evW, fn_eq, evR, Nat.reduceAdd, Nat.reduceLT, Nat.reduceLeDiff, reduceIte, Nat.reduceEqDiff, reduceCtorEq, argEnv, eq_self, if_true, if_false]
  generalize hz : itLim _ _ = z
  obtain ⟨_, rfl, T, X, rv, rfl, hT, hO⟩ := L _ (by rfl) (by rw [hK]) z hz
  clear hz L
  obtain ⟨ids, g1, g2, g3⟩ := fz_out' hO K rfl (plain_ints _)
  have hsc := out_tup hO
  have ht := kt X
  generalize K ++ X = Z at *
  simp only [hT, hsc, evX, Int.reduceEq, Int.reduceLT, Int.reduceLE, Nat.reduceMul, Nat.reduceMod, evW, fn_eq, evR, Nat.reduceAdd, Nat.reduceLT, Nat.reduceLeDiff, reduceIte, Nat.reduceEqDiff, reduceCtorEq, argEnv, eq_self, if_true, if_false]
  exact frz_one g1 g3 ht (fun k hk => by have := g2 k hk; omega)
end Go.Proofs.YtcbmakanokmdjaaDoor.Code

/- octet.Key, of the program and of the document: the keys of lists of texts. -/
set_option linter.unusedSimpArgs false
set_option linter.unusedVariables false
namespace Go.Proofs.YtcbmakanokmdjaaDoor.Code
open Go.Proofs.YtcbmakanokmdjaaDoor.Ev

def rS (s : ByteArray) : List AV := [.str s]
def rU (b : UInt8) : List AV := [.int .u8 (b.toNat : Int)]
def eU (l : List UInt8) : AV := .lst (l.map rU)
def keyG (_ : Nat) (s : ByteArray) : List UInt8 := esc s.data.toList ++ [0, 1]
def keyU (l : List ByteArray) : List UInt8 := gath keyG 0 l
theorem data_len (s : ByteArray) : s.data.toList.length = s.size := Array.length_toList
theorem keyG_len (l : List ByteArray) (h : ∀ s ∈ l, s.size ≤ 1000) : ∀ k, (gath keyG k l).length ≤ 2002 * l.length := by
  induction l with
  | nil => intro k; simp [gath]
  | cons s l ih =>
    intro k
    have h1 := h s (by simp)
    have h2 := ih (fun t ht => h t (by simp [ht])) (k + 1)
    have h3 := esc_len s.data.toList
    rw [data_len] at h3
    simp only [gath, keyG, List.length_append, List.length_cons, List.length_nil]
    omega
theorem plain_U (q : List UInt8) : Plain (q.map rU) := by
  intro r hr a ha
  obtain ⟨n, _, rfl⟩ := List.mem_map.1 hr
  obtain rfl : a = .int .u8 (n.toNat : Int) := by simpa [rU] using ha
  exact ⟨rfl, fun _ _ => rfl⟩
theorem rU_rows (q : List UInt8) : ∀ r ∈ q.map rU, r.length = 1 := fun r hr => by obtain ⟨y, _, rfl⟩ := List.mem_map.1 hr; rfl
theorem byteRows_U (s : ByteArray) : byteRows s = s.data.toList.map rU := rfl
theorem fn_uRep {call it} {n : Nat} {res : List CRes} {p : List AV → Heap → Option (List AV × Heap)} (args : List AV) (H : Heap) : evFn call it ⟨n, res, .user p, false, false⟩ args H = bodyK res ((p args H).map fun r => (CX.ret, (argEnv 0 r.1, r.2))) := by
  rw [fn_eq]
  simp only [evCode, user_args]
theorem f66 (s : ByteArray) (hs : s.size ≤ 1000000) (H : Heap) : cal (evC cprog) false 66 [.str s, .str ⟨#[0]⟩, .str ⟨#[0, 255]⟩] H = some (.str ⟨(esc s.data.toList).toArray⟩, H) := by
  rw [cal_of at66, show c66 = ⟨0, [.t 0], .user pRepl, false, false⟩ from rfl, fn_uRep]
  have h : pRepl [.str s, .str ⟨#[0]⟩, .str ⟨#[0, 255]⟩] H = some ([.str ⟨(esc s.data.toList).toArray⟩], H) := by
    simp only [pRepl]
    rw [if_pos ⟨trivial, trivial, hs⟩]
  rw [h]
  simp only [evX, Int.reduceEq, Int.reduceLT, Int.reduceLE, Nat.reduceMul, Nat.reduceMod, evW, fn_eq, evR, Nat.reduceAdd, Nat.reduceLT, Nat.reduceLeDiff, reduceIte, Nat.reduceEqDiff, reduceCtorEq, argEnv, eq_self, if_true, if_false]
theorem slS {H : Heap} {a : AV} {l : List ByteArray} (h : SlAt H 1 a (l.map rS)) {i : Nat} {s : ByteArray} (hi : l[i]? = some s) : ∃ p, iaddrK 1 (some a) (some (.int .i64 (i : Int))) = some p ∧ ∀ X, loadK false 1 (H ++ X) (some p) = some (.str s) := by
  obtain ⟨_, p, h1, h2⟩ := h.get i (rS s) (by rw [List.getElem?_map, hi]; rfl)
  exact ⟨p, h1, fun X => h2.onex X⟩
theorem f49 (a : AV) (l : List ByteArray) (hl : l.length ≤ 1000) (hs : ∀ s ∈ l, s.size ≤ 1000) (H : Heap) (hsl : SlAt H 1 a (l.map rS)) : cal (evC cprog) true 49 [a] H = some (eU (keyU l), H) := by
  rw [cal_of at49]
  have hlen := hsl.len
  simp only [List.length_map] at hlen
  simp only [c49, hlen, evX, Int.reduceEq, Int.reduceLT, Int.reduceLE, Nat.reduceMul, Nat.reduceMod, evW, fn_eq, evR, Nat.reduceAdd, Nat.reduceLT, Nat.reduceLeDiff, reduceIte, Nat.reduceEqDiff, reduceCtorEq, argEnv, eq_self, if_true, if_false]
  generalize hz : itLim _ _ = z
  obtain ⟨T, X, rv, rfl, hT, hO⟩ := gath_rule l keyG rU [3, 6, 7, 8] (fun i rv => [(3, rv), (6, a), (7, .int .i64 (l.length : Int)), (8, .int .i64 (i : Int))]) H 1 5 (evCode (evC cprog) itLim c49_l0) 0 [3] (fun rv => [(3, rv)])
    (fun i s hx E X rv hE hO => by
      have hlt : i < l.length := (List.getElem?_eq_some_iff.1 hx).1
      have hi : (i : Int) < (l.length : Int) := by omega
      have hw := wrapS hlt (by omega)
      obtain ⟨p, hp, hq⟩ := slS hsl hx
      have hss := hs s (List.mem_of_getElem? hx)
      have h66 := fun K => f66 s (by omega) K
      have hb := keyG_len (l.take i) (fun t ht => hs t (List.mem_of_mem_take ht)) 0
      rw [List.length_take] at hb
      have he := esc_len s.data.toList
      rw [data_len] at he
      obtain ⟨rv1, X1, a1, a2, a3⟩ := hO.app H rfl 1 (.str ⟨(esc s.data.toList).toArray⟩) ((esc s.data.toList).map rU) (by simp [srcRows, byteRows_U]) (rU_rows _) (by simp only [List.length_map, reach]; omega)
      have a3' := a3.more [⟨0, true, 5, 1, [[.int .u8 0], [.int .u8 1]]⟩]
      obtain ⟨rv2, X2, b1, b2, b3⟩ := a3'.app H rfl 1 (.ref (H.length + X1.length) 0 1 0 2) [[.int .u8 0], [.int .u8 1]] (by simp [srcRows, rowsOf, curBlk, at_app]) (by simp) (by simp only [List.length_map, List.length_append, List.length_cons, List.length_nil, reach]; omega)
      simp only [c49_l0, hE, hi, hp, hq, h66, a1, a2, b1, b2, hw, evX, Int.reduceEq, Int.reduceLT, Int.reduceLE, Nat.reduceMul, Nat.reduceMod, evW, fn_eq, evR, Nat.reduceAdd, Nat.reduceLT, Nat.reduceLeDiff, reduceIte, Nat.reduceEqDiff, reduceCtorEq, argEnv, eq_self, if_true, if_false]
      exact ⟨_, _, _, rfl, by rfl, by simpa [keyG, rU] using b3⟩)
    (fun E X rv hE => by
      simp only [c49_l0, hE, Int.lt_irrefl, evX, Int.reduceEq, Int.reduceLT, Int.reduceLE, Nat.reduceMul, Nat.reduceMod, evW, fn_eq, evR, Nat.reduceAdd, Nat.reduceLT, Nat.reduceLeDiff, reduceIte, Nat.reduceEqDiff, reduceCtorEq, argEnv, eq_self, if_true, if_false]
      exact ⟨_, rfl, by rfl⟩) _ [] .nils (.nils ..) (by rfl) (by simp) z hz
  simp only [hT, out_tup hO, evX, Int.reduceEq, Int.reduceLT, Int.reduceLE, Nat.reduceMul, Nat.reduceMod, evW, fn_eq, evR, Nat.reduceAdd, Nat.reduceLT, Nat.reduceLeDiff, reduceIte, Nat.reduceEqDiff, reduceCtorEq, argEnv, eq_self, if_true, if_false]
  exact frz_out hO H [] (by simp) (plain_U _)
end Go.Proofs.YtcbmakanokmdjaaDoor.Code

/- ref01.Key: the document's keys of lists of texts. -/
set_option linter.unusedSimpArgs false
set_option linter.unusedVariables false
namespace Go.Proofs.YtcbmakanokmdjaaDoor.Code
open Go.Proofs.YtcbmakanokmdjaaDoor.Ev

def escG (_ : Nat) (b : UInt8) : List UInt8 := if b = 0 then [0, 255] else [b]
theorem esc_gath : ∀ (l : List UInt8) (k : Nat), gath escG k l = esc l
  | [], _ => rfl
  | b :: l, k => by
    rw [gath, esc_gath l (k + 1), esc, escG]
    split <;> simp_all
theorem esc_take (l : List UInt8) (i : Nat) : (gath escG 0 (l.take i)).length ≤ 2 * l.length := by
  rw [esc_gath]
  have := esc_len (l.take i)
  rw [List.length_take] at this
  omega
theorem l51_0 (a : AV) (l : List ByteArray) (i : Nat) (s : ByteArray) (hi : l[i]? = some s) (hs : s.size ≤ 1000) (pre : List UInt8) (hpre : pre.length ≤ 10000000) (H X : Heap) (hsl : SlAt H 1 a (l.map rS)) (rv : AV) (hO : Out H.length 1 5 X rv (pre.map rU)) (st : St)
    (hE : keepEnv st.1 [0, 3, 4, 5] = [(0, a), (3, rv), (4, .int .i64 (i : Int)), (5, .int .i64 0)]) (hH : st.2 = H ++ X) (z : Option (CX × St)) (hz : itLim (evCode (evC cprog) itLim c51_l0) st = z) :
    ∃ T X' rv', z = some (.exit 2, T, H ++ X') ∧ keepEnv T [0, 3, 4] = [(0, a), (3, rv'), (4, .int .i64 (i : Int))] ∧ Out H.length 1 5 X' rv' ((pre ++ esc s.data.toList).map rU) := by
  obtain ⟨p, hp, hq⟩ := slS hsl hi
  have hsz := data_len s
  have L := gath_pre s.data.toList escG rU (pre.map rU) [0, 3, 4, 5] (fun k rv => [(0, a), (3, rv), (4, .int .i64 (i : Int)), (5, .int .i64 (k : Int))]) H 1 5 (evCode (evC cprog) itLim c51_l0) 2 [0, 3, 4] (fun rv => [(0, a), (3, rv), (4, .int .i64 (i : Int))])
    (fun k b hb E X rv hE hO => by
      have hlt : k < s.data.toList.length := (List.getElem?_eq_some_iff.1 hb).1
      have hk : (k : Int) < (s.size : Int) := by omega
      have hw := wrapS (i := k) (n := 1000) (by omega) (by omega)
      have hix : idxK (some (.str s)) (some (.int .i64 (k : Int))) = some (.int .u8 (b.toNat : Int)) := by
        simp only [idxK, asNat_cast, byteK, hb]
      have hlen := esc_take s.data.toList k
      have hO1 := hO.more [⟨0, true, 5, 1, [[.int .u8 (b.toNat : Int)]]⟩]
      obtain ⟨rv1, X1, a1, a2, a3⟩ := hO1.app H rfl 1 (.ref (H.length + X.length) 0 1 0 1) [[.int .u8 (b.toNat : Int)]] (by simp [srcRows, rowsOf, curBlk, at_app]) (by simp) (by simp only [List.length_map, List.length_append, List.length_cons, List.length_nil, reach]; omega)
      by_cases h0 : b = 0
      · subst h0
        have hO2 := a3.more [⟨0, true, 5, 1, [[.int .u8 255]]⟩]
        obtain ⟨rv2, X2, b1, b2, b3⟩ := hO2.app H rfl 1 (.ref (H.length + X1.length) 0 1 0 1) [[.int .u8 255]] (by simp [srcRows, rowsOf, curBlk, at_app]) (by simp) (by simp only [List.length_map, List.length_append, List.length_cons, List.length_nil, reach]; omega)
        have hz0 : ((UInt8.toNat 0 : Nat) : Int) = 0 := rfl
        rw [hz0] at hix a1
        simp only [c51_l0, hE, hp, hq, hk, hix, a1, a2, b1, b2, hw, evX, Int.reduceEq, Int.reduceLT, Int.reduceLE, Nat.reduceMul, Nat.reduceMod, evW, fn_eq, evR, Nat.reduceAdd, Nat.reduceLT, Nat.reduceLeDiff, reduceIte, Nat.reduceEqDiff, reduceCtorEq, argEnv, eq_self, if_true, if_false]
        exact ⟨_, _, _, rfl, by rfl, by simpa [escG, rU] using b3⟩
      · have hne : ¬ (b.toNat : Int) = 0 := fun h => h0 (UInt8.toNat_inj.1 (by rw [show (0 : UInt8).toNat = 0 from rfl]; omega))
        simp only [c51_l0, hE, hp, hq, hk, hix, hne, a1, a2, hw, evX, Int.reduceEq, Int.reduceLT, Int.reduceLE, Nat.reduceMul, Nat.reduceMod, evW, fn_eq, evR, Nat.reduceAdd, Nat.reduceLT, Nat.reduceLeDiff, reduceIte, Nat.reduceEqDiff, reduceCtorEq, argEnv, eq_self, if_true, if_false]
        exact ⟨_, _, _, rfl, by rfl, by simpa [escG, h0, rU] using a3⟩)
    (fun E X rv hE => by
      rw [hsz] at hE
      simp only [c51_l0, hE, hp, hq, Int.lt_irrefl, evX, Int.reduceEq, Int.reduceLT, Int.reduceLE, Nat.reduceMul, Nat.reduceMod, evW, fn_eq, evR, Nat.reduceAdd, Nat.reduceLT, Nat.reduceLeDiff, reduceIte, Nat.reduceEqDiff, reduceCtorEq, argEnv, eq_self, if_true, if_false]
      exact ⟨_, rfl, by rfl⟩) st X rv hO (by simpa using hE) hH z hz
  obtain ⟨T, X', rv', h1, h2, h3⟩ := L
  refine ⟨T, X', rv', h1, h2, ?_⟩
  rw [esc_gath] at h3
  simpa using h3
theorem f51 (a : AV) (l : List ByteArray) (hl : l.length ≤ 1000) (hs : ∀ s ∈ l, s.size ≤ 1000) (H : Heap) (hsl : SlAt H 1 a (l.map rS)) : cal (evC cprog) true 51 [a] H = some (eU (keyU l), H) := by
  rw [cal_of at51]
  have hlen := hsl.len
  simp only [List.length_map] at hlen
  simp only [c51, evX, Int.reduceEq, Int.reduceLT, Int.reduceLE, Nat.reduceMul, Nat.reduceMod, evW, fn_eq, evR, Nat.reduceAdd, Nat.reduceLT, Nat.reduceLeDiff, reduceIte, Nat.reduceEqDiff, reduceCtorEq, argEnv, eq_self, if_true, if_false]
  generalize hz : itLim _ _ = z
  obtain ⟨T, X, rv, rfl, hT, hO⟩ := gath_rule l keyG rU [0, 3, 4] (fun i rv => [(0, a), (3, rv), (4, .int .i64 (i : Int))]) H 1 5 (evCode (evC cprog) itLim c51_l1) 0 [3] (fun rv => [(3, rv)])
    (fun i s hx E X rv hE hO => by
      have hlt : i < l.length := (List.getElem?_eq_some_iff.1 hx).1
      have hi : (i : Int) < (l.length : Int) := by omega
      have hw := wrapS hlt (by omega)
      have hss := hs s (List.mem_of_getElem? hx)
      have hb := keyG_len (l.take i) (fun t ht => hs t (List.mem_of_mem_take ht)) 0
      rw [List.length_take] at hb
      have he := esc_len s.data.toList
      rw [data_len] at he
      simp only [c51_l1, hE, hi, hlen, evX, Int.reduceEq, Int.reduceLT, Int.reduceLE, Nat.reduceMul, Nat.reduceMod, evW, fn_eq, evR, Nat.reduceAdd, Nat.reduceLT, Nat.reduceLeDiff, reduceIte, Nat.reduceEqDiff, reduceCtorEq, argEnv, eq_self, if_true, if_false]
      generalize hz : itLim _ _ = z
      obtain ⟨T, X1, rv1, rfl, hT, hO1⟩ := l51_0 a l i s hx (by omega) _ (by omega) H X hsl rv hO _ (by rfl) rfl z hz
      have hO2 := hO1.more [⟨0, true, 5, 1, [[.int .u8 0], [.int .u8 1]]⟩]
      obtain ⟨rv2, X2, b1, b2, b3⟩ := hO2.app H rfl 1 (.ref (H.length + X1.length) 0 1 0 2) [[.int .u8 0], [.int .u8 1]] (by simp [srcRows, rowsOf, curBlk, at_app]) (by simp) (by simp only [List.length_map, List.length_append, List.length_cons, List.length_nil, reach]; omega)
      simp only [hT, b1, b2, hw, evX, Int.reduceEq, Int.reduceLT, Int.reduceLE, Nat.reduceMul, Nat.reduceMod, evW, fn_eq, evR, Nat.reduceAdd, Nat.reduceLT, Nat.reduceLeDiff, reduceIte, Nat.reduceEqDiff, reduceCtorEq, argEnv, eq_self, if_true, if_false]
      exact ⟨_, _, _, rfl, by rfl, by simpa [keyG, rU] using b3⟩)
    (fun E X rv hE => by
      simp only [c51_l1, hE, hlen, Int.lt_irrefl, evX, Int.reduceEq, Int.reduceLT, Int.reduceLE, Nat.reduceMul, Nat.reduceMod, evW, fn_eq, evR, Nat.reduceAdd, Nat.reduceLT, Nat.reduceLeDiff, reduceIte, Nat.reduceEqDiff, reduceCtorEq, argEnv, eq_self, if_true, if_false]
      exact ⟨_, rfl, by rfl⟩) _ [] .nils (.nils ..) (by rfl) (by simp) z hz
  simp only [hT, out_tup hO, evX, Int.reduceEq, Int.reduceLT, Int.reduceLE, Nat.reduceMul, Nat.reduceMod, evW, fn_eq, evR, Nat.reduceAdd, Nat.reduceLT, Nat.reduceLeDiff, reduceIte, Nat.reduceEqDiff, reduceCtorEq, argEnv, eq_self, if_true, if_false]
  exact frz_out hO H [] (by simp) (plain_U _)
end Go.Proofs.YtcbmakanokmdjaaDoor.Code

/- (stands where another seat has texts of its own) -/
set_option linter.unusedSimpArgs false
set_option linter.unusedVariables false

/- logic: paths, of the program and of the document. -/
set_option linter.unusedSimpArgs false
set_option linter.unusedVariables false
namespace Go.Proofs.YtcbmakanokmdjaaDoor.Code
open Go.Proofs.YtcbmakanokmdjaaDoor.Ev

/-- the ends of a list, changed with each other -/
def swp (l : List Int) (t : Nat) : List Int := (List.range l.length).map fun k => if k < t ∨ l.length ≤ k + t then l.getD (l.length - 1 - k) 0 else l.getD k 0
theorem swp_len (l : List Int) (t : Nat) : (swp l t).length = l.length := by simp [swp]
theorem swp_at (l : List Int) (t k : Nat) (hk : k < l.length) : (swp l t)[k]? = some (if k < t ∨ l.length ≤ k + t then l.getD (l.length - 1 - k) 0 else l.getD k 0) := by simp [swp, hk]
theorem swp_zero (l : List Int) : swp l 0 = l := by
  apply List.ext_getElem? 
  intro k
  by_cases hk : k < l.length
  · rw [swp_at l 0 k hk, if_neg (by omega), List.getD_eq_getElem?_getD, List.getElem?_eq_getElem hk]; rfl
  · rw [List.getElem?_eq_none (by rw [swp_len]; omega), List.getElem?_eq_none (by omega)]
theorem swp_all (l : List Int) (t : Nat) (h : l.length ≤ 2 * t + 1) : swp l t = l.reverse := by
  apply List.ext_getElem?
  intro k
  by_cases hk : k < l.length
  · rw [swp_at l t k hk, List.getElem?_reverse hk]
    have e : (if k < t ∨ l.length ≤ k + t then l.getD (l.length - 1 - k) 0 else l.getD k 0) = l.getD (l.length - 1 - k) 0 := by
      split
      · rfl
      · congr 1; omega
    rw [e, List.getD_eq_getElem?_getD, List.getElem?_eq_getElem (by omega)]; rfl
  · rw [List.getElem?_eq_none (by rw [swp_len]; omega), List.getElem?_eq_none (by simp; omega)]
theorem swp_step (l : List Int) (t : Nat) (h : 2 * t + 1 < l.length) : ((swp l t).set t (l.getD (l.length - 1 - t) 0)).set (l.length - 1 - t) (l.getD t 0) = swp l (t + 1) := by
  apply List.ext_getElem?
  intro k
  by_cases hk : k < l.length
  · rw [swp_at l (t + 1) k hk, List.getElem?_set, List.getElem?_set]
    simp only [List.length_set, swp_len]
    by_cases h1 : l.length - 1 - t = k
    · rw [if_pos h1, if_pos (by omega), if_pos (by omega)]
      congr 2; omega
    · rw [if_neg h1]
      by_cases h2 : t = k
      · rw [if_pos h2, if_pos (by omega), if_pos (by omega), h2]
      · rw [if_neg h2, swp_at l t k hk]
        congr 1
        by_cases h3 : k < t ∨ l.length ≤ k + t
        · rw [if_pos h3, if_pos (by omega)]
        · rw [if_neg h3, if_neg (by omega)]
  · rw [List.getElem?_eq_none (by simp [swp_len]; omega), List.getElem?_eq_none (by rw [swp_len]; omega)]
theorem swp_row {l : List Int} {t k : Nat} (h1 : t ≤ k) (h2 : k + t < l.length) : ((swp l t).map rI)[k]? = some [.int .i64 (l.getD k 0)] := by
  rw [List.getElem?_map, swp_at l t k (by omega), if_neg (by omega)]; rfl
theorem f58 (H : Heap) (b v : Nat) (l : List Int) (hb : H[b]? = some ⟨v, true, 3, 1, l.map rI⟩) (h0 : 0 < l.length) (hl : l.length ≤ 1000) : cal (evC cprog) false 58 [.ref b v 1 0 l.length] H = some (.tup [], H.set b ⟨v, true, 3, 1, l.reverse.map rI⟩) := by
  rw [cal_of at58]
  have hbl := (List.getElem?_eq_some_iff.1 hb).1
  have hw0 : IntKind.i64.wrap ((l.length : Int) - 1) = ((l.length - 1 : Nat) : Int) := by rw [wrap_i64 (by omega) (by omega)]; omega
  simp only [c58, hw0, evX, Int.reduceEq, Int.reduceLT, Int.reduceLE, Nat.reduceMul, Nat.reduceMod, evW, fn_eq, evR, Nat.reduceAdd, Nat.reduceLT, Nat.reduceLeDiff, reduceIte, Nat.reduceEqDiff, reduceCtorEq, argEnv, eq_self, if_true, if_false]
  generalize hz : itLim _ _ = z
  have L := loop_rule (σ := Nat) (m := [0, 2, 3]) (env := fun t => [(0, .ref b v 1 0 l.length), (2, .int .i64 (t : Int)), (3, .int .i64 ((l.length - 1 - t : Nat) : Int))]) (hp := fun t => H.set b ⟨v, true, 3, 1, (swp l t).map rI⟩)
    (P := fun _ r => ∃ T, r = (.exit 0, T, H.set b ⟨v, true, 3, 1, l.reverse.map rI⟩))
    (mu := fun t => l.length - t) (I := fun t => 2 * t ≤ l.length) (evCode (evC cprog) itLim c58_l0) ?_ 0 _ (by omega) (by rfl) (by
      rw [swp_zero]
      exact List.ext_getElem? fun j => by
        by_cases e : b = j
        · subst e; rw [List.getElem?_set_self hbl, hb]
        · rw [List.getElem?_set_ne e]) z hz
  · obtain ⟨_, rfl, T, rfl⟩ := L
    simp only [evX, Int.reduceEq, Int.reduceLT, Int.reduceLE, Nat.reduceMul, Nat.reduceMod, evW, fn_eq, evR, Nat.reduceAdd, Nat.reduceLT, Nat.reduceLeDiff, reduceIte, Nat.reduceEqDiff, reduceCtorEq, argEnv, eq_self, if_true, if_false]
    show some (AV.tup [], gc H (AV.tup []) (H.set b ⟨v, true, 3, 1, l.reverse.map rI⟩)) = _
    rcases gc_or H (.tup []) (H.set b ⟨v, true, 3, 1, l.reverse.map rI⟩) with h | ⟨h, ht⟩
    · rw [h]
    · rw [List.take_of_length_le (by simp)] at ht
      rw [h, ht]
  · intro t ht E hE
    by_cases hlt : 2 * t + 1 < l.length
    · have hii : (t : Int) < ((l.length - 1 - t : Nat) : Int) := by omega
      have r1 := swp_row (l := l) (t := t) (k := t) (Nat.le_refl _) (by omega)
      have r2 := swp_row (l := l) (t := t) (k := l.length - 1 - t) (by omega) (by omega)
      have r3 : (((swp l t).map rI).set t [.int .i64 (l.getD (l.length - 1 - t) 0)])[l.length - 1 - t]? = some [.int .i64 (l.getD (l.length - 1 - t) 0)] := by
        rw [List.getElem?_set_ne (by omega)]; exact r2
      have hst : (((swp l t).map rI).set t [.int .i64 (l.getD (l.length - 1 - t) 0)]).set (l.length - 1 - t) [.int .i64 (l.getD t 0)] = (swp l (t + 1)).map rI := by
        rw [← swp_step l t hlt, List.map_set, List.map_set]; rfl
      have k1 : t < l.length := by omega
      have k2 : l.length - 1 - t < l.length := by omega
      have hw1 : IntKind.i64.wrap ((t : Int) + 1) = ((t + 1 : Nat) : Int) := by rw [wrap_i64 (by omega) (by omega)]; omega
      have hw2 : IntKind.i64.wrap (((l.length - 1 - t : Nat) : Int) - 1) = ((l.length - 1 - (t + 1) : Nat) : Int) := by rw [wrap_i64 (by omega) (by omega)]; omega
      have hat : ∀ B, (H.set b B)[b]? = some B := fun B => List.getElem?_set_self hbl
      generalize l.length - 1 - t = j at *
      simp only [c58_l0, hE, hii, hat, r1, r2, r3, hst, List.set_set, k1, k2, hw1, hw2, asNat_cast, evX, Int.reduceEq, Int.reduceLT, Int.reduceLE, Nat.reduceMul, Nat.reduceMod, evW, fn_eq, evR, Nat.reduceAdd, Nat.reduceLT, Nat.reduceLeDiff, reduceIte, Nat.reduceEqDiff, reduceCtorEq, argEnv, eq_self, if_true, if_false]
      exact q_next (t + 1) (by rfl) (by rfl) (by omega) (by omega) fun r h => h
    · have hii : ¬ (t : Int) < ((l.length - 1 - t : Nat) : Int) := by omega
      rw [swp_all l t (by omega)]
      simp only [c58_l0, hE, hii, evX, Int.reduceEq, Int.reduceLT, Int.reduceLE, Nat.reduceMul, Nat.reduceMod, evW, fn_eq, evR, Nat.reduceAdd, Nat.reduceLT, Nat.reduceLeDiff, reduceIte, Nat.reduceEqDiff, reduceCtorEq, argEnv, eq_self, if_true, if_false]
      exact q_exit ⟨_, rfl⟩
end Go.Proofs.YtcbmakanokmdjaaDoor.Code

/- logic: paths, of the program and of the document: the walks up. -/
set_option linter.unusedSimpArgs false
set_option linter.unusedVariables false
namespace Go.Proofs.YtcbmakanokmdjaaDoor.Code
open Go.Proofs.YtcbmakanokmdjaaDoor.Ev

/-- a walk up: what is ahead, and what was walked -/
structure Walks (b : Base) (f : List Item) (i : Nat) (c : Int) (acc : List Int) : Prop where
  lo : -1 ≤ c
  hi : c < (f.length : Int)
  eq : pth b.types f i = pthI b.types f c ++ acc
  len : (acc.length : Int) + c ≤ (f.length : Int)
theorem Walks.step {b : Base} {f : List Item} {i c : Nat} {acc : List Int} (w : Walks b f i (c : Int) acc) : Walks b f i (par b.types f c) ((c : Int) :: acc) := by
  have h1 := w.hi
  have hp := par_lt b.types f c
  refine ⟨hp.1, by omega, ?_, by have := w.len; simp; omega⟩
  rw [w.eq, pthI_nat, pth_eq b.types f (by omega), List.append_assoc]; rfl
theorem Walks.last {b : Base} {f : List Item} {i : Nat} {c : Int} {acc : List Int} (w : Walks b f i c acc) (h : c < 0) : acc = pth b.types f i := by
  rw [w.eq, pthI_neg _ _ h]; rfl
theorem out_src_more {n ty : Nat} {X : Heap} {rv : AV} {rows : List (List AV)} (h : Out n 1 ty X rv rows) (H : Heap) (hn : n = H.length) (Y : Heap) : srcRows (H ++ (X ++ Y)) rv = some rows := by
  subst hn
  rcases h with ⟨rfl, rfl | rfl⟩ | ⟨h1, j, v, rfl, h3⟩
  · rfl
  · rfl
  · have hl := (List.getElem?_eq_some_iff.1 h3).1
    cases hr : rows.length with
    | zero => exact absurd (List.eq_nil_of_length_eq_zero hr) h1
    | succ m =>
      have hc : curBlk (H ++ (X ++ Y)) (H.length + j) v 1 = some ⟨v, true, ty, 1, rows⟩ := by simp [curBlk, at_app, List.getElem?_append_left hl, h3]
      simp only [srcRows, rowsOf, hc, Option.map_some, List.drop_zero]
      rw [List.take_of_length_le (by omega)]
theorem rI_rows (l : List Int) : ∀ r ∈ l.map rI, r.length = 1 := fun r hr => by obtain ⟨y, _, rfl⟩ := List.mem_map.1 hr; rfl
theorem f37 (b : Base) (f : List Item) (hr : Right b f) (i : Nat) (hi : i < f.length) (H : Heap) : cal (evC cprog) true 37 [eBase b, eItems f, .int .i64 (i : Int)] H = some (eIs (pth b.types f i), H) := by
  rw [cal_of at37]
  have hfl := hr.len
  obtain ⟨K, hK⟩ : ∃ K : Heap, K = H ++ [bBase b] := ⟨_, rfl⟩
  have kl : K.length = H.length + 1 := by rw [hK]; simp
  have kt : ∀ Z, (K ++ Z).take H.length = H := fun Z => by rw [hK]; simp
  have kb : ∀ Z, (K ++ Z)[H.length]? = some (bBase b) := fun Z => by rw [hK]; simp
  have L := fun (st : St) (hE : keepEnv st.1 [1, 2, 3, 7] = [(1, eItems f), (2, .int .i64 (i : Int)), (3, .ptr H.length 0 4 0 0), (7, .nils)]) (hH : st.2 = K) (z : Option (CX × St)) (hz : itLim (evCode (evC cprog) itLim c37_l0) st = z) =>
    loop_rule (σ := Int × List Int × Heap × AV) (m := [1, 2, 3, 7]) (env := fun s => [(1, eItems f), (2, .int .i64 s.1), (3, .ptr H.length 0 4 0 0), (7, s.2.2.2)]) (hp := fun s => K ++ s.2.2.1)
    (P := fun _ r => ∃ T X rv, r = (.exit 0, T, K ++ X) ∧ keepEnv T [7] = [(7, rv)] ∧ Out K.length 1 3 X rv ((pth b.types f i).reverse.map rI))
    (mu := fun s => (s.1 + 1).toNat) (I := fun s => Walks b f i s.1 s.2.1 ∧ Out K.length 1 3 s.2.2.1 s.2.2.2 (s.2.1.reverse.map rI)) (evCode (evC cprog) itLim c37_l0) (by
      intro ⟨c, acc, X, rv⟩ ⟨w, hO⟩ E hE
      simp only at w hO hE ⊢
      have h1 := w.lo
      have h2 := w.hi
      have h3 := w.len
      by_cases hc : 0 ≤ c
      · obtain ⟨c, rfl⟩ : ∃ k : Nat, c = (k : Int) := ⟨c.toNat, by omega⟩
        have h102 := fun H => f33 b f hr c (by omega) H
        have w2 := w.step
        obtain ⟨rv1, X1, a1, t1, O1⟩ := (hO.more [⟨0, true, 3, 1, [[.int .i64 (c : Int)]]⟩]).app K rfl 8 (.ref (K.length + X.length) 0 1 0 1) [rI (c : Int)] (by simp [srcRows, rowsOf, curBlk, ← List.append_assoc, rI]) (by simp [rI]) (by simp [reach]; omega)
        have hra : acc.reverse.map rI ++ [rI (c : Int)] = ((c : Int) :: acc).reverse.map rI := by simp
        rw [hra] at O1
        simp only [bBase] at kb
        simp only [eBase] at h102
        have hpl := par_lt b.types f c
        simp only [c37_l0, hE, hc, kb, h102, a1, t1, evX, Int.reduceEq, Int.reduceLT, Int.reduceLE, Nat.reduceMul, Nat.reduceMod, evW, fn_eq, evR, Nat.reduceAdd, Nat.reduceLT, Nat.reduceLeDiff, reduceIte, Nat.reduceEqDiff, reduceCtorEq, argEnv, eq_self, if_true, if_false]
        exact q_next (par b.types f c, (c : Int) :: acc, X1, rv1) (by rfl) rfl ⟨w2, O1⟩ (by simp only; omega) fun r h => h
      · simp only [c37_l0, hE, hc, evX, Int.reduceEq, Int.reduceLT, Int.reduceLE, Nat.reduceMul, Nat.reduceMod, evW, fn_eq, evR, Nat.reduceAdd, Nat.reduceLT, Nat.reduceLeDiff, reduceIte, Nat.reduceEqDiff, reduceCtorEq, argEnv, eq_self, if_true, if_false]
        rw [w.last (by omega)] at hO
        exact q_exit ⟨_, X, rv, rfl, by rfl, hO⟩) ((i : Int), [], [], .nils) st ⟨⟨by omega, by omega, by rw [pthI_nat, List.append_nil], by simp; omega⟩, .nils ..⟩ hE (by simpa using hH) z hz
  simp only [c37, eBase, evX, Int.reduceEq, Int.reduceLT, Int.reduceLE, Nat.reduceMul, Nat.reduceMod, evW, fn_eq, evR, Nat.reduceAdd, Nat.reduceLT, Nat.reduceLeDiff, reduceIte, Nat.reduceEqDiff, reduceCtorEq, argEnv, eq_self, if_true, if_false]
  generalize hz : itLim _ _ = z
  obtain ⟨_, rfl, T, X, rv, rfl, hT, hO⟩ := L _ (by rfl) (by rw [hK]; rfl) z hz
  clear hz L
  have hne : pth b.types f i ≠ [] := fun e => by have := pth_self b.types f i; rw [e] at this; cases this
  have hpl : (pth b.types f i).length ≤ 1000 := by
    have := anc_len (pts b.types f) i i (Nat.le_refl _)
    have e : (pth b.types f i).length ≤ i + 1 := this
    omega
  have hp0 := List.length_pos_iff.2 hne
  generalize pth b.types f i = l at *
  rcases hO with ⟨h1, _⟩ | ⟨_, j, v, rfl, hXj⟩
  · exact absurd (by simpa using h1) hne
  have hat : (K ++ X)[K.length + j]? = some ⟨v, true, 3, 1, l.reverse.map rI⟩ := by rw [at_app]; exact hXj
  have h103 := f58 (K ++ X) (K.length + j) v l.reverse hat (by simpa using hp0) (by simpa using hpl)
  have hbl := (List.getElem?_eq_some_iff.1 hat).1
  rw [List.reverse_reverse] at h103
  simp only [List.length_reverse] at h103
  simp only [List.length_map, List.length_reverse] at hT
  have hfz : ∃ ids, fz ((K ++ X).set (K.length + j) ⟨v, true, 3, 1, l.map rI⟩) fzDepth (.ref (K.length + j) v 1 0 l.length) = some (eIs l, ids) ∧ ∀ x ∈ ids, x = K.length + j :=
    fz_blk (k := ⟨v, true, 3, 1, l.map rI⟩) (by simp only [curBlk, List.getElem?_set_self hbl]; rfl) (rows := l.map rI) (by show (l.map rI).take l.length = _; rw [List.take_of_length_le (by simp)]) (fun r hr a ha => by
      obtain ⟨x, _, rfl⟩ := List.mem_map.1 hr
      simp only [rI, List.mem_cons, List.not_mem_nil, or_false] at ha
      subst ha; exact ⟨rfl, fun _ _ => rfl⟩) 6
  obtain ⟨ids, g1, g2⟩ := hfz
  have ht : ((K ++ X).set (K.length + j) ⟨v, true, 3, 1, l.map rI⟩).take H.length = H := by rw [List.take_set_of_le (by omega)]; exact kt X
  generalize (K ++ X).set (K.length + j) ⟨v, true, 3, 1, l.map rI⟩ = Z at *
  simp only [hT, h103, evX, Int.reduceEq, Int.reduceLT, Int.reduceLE, Nat.reduceMul, Nat.reduceMod, evW, fn_eq, evR, Nat.reduceAdd, Nat.reduceLT, Nat.reduceLeDiff, reduceIte, Nat.reduceEqDiff, reduceCtorEq, argEnv, eq_self, if_true, if_false]
  exact frz_one g1 rfl ht (fun k hk => by have := g2 k hk; omega)
theorem f38 (b : Base) (f : List Item) (hr : Right b f) (i : Nat) (hi : i < f.length) (H : Heap) : cal (evC cprog) true 38 [eBase b, eItems f, .int .i64 (i : Int)] H = some (eIs (pth b.types f i), H) := by
  rw [cal_of at38]
  have hfl := hr.len
  obtain ⟨K, hK⟩ : ∃ K : Heap, K = H ++ [bBase b] := ⟨_, rfl⟩
  have kl : K.length = H.length + 1 := by rw [hK]; simp
  have kt : ∀ Z, (K ++ Z).take H.length = H := fun Z => by rw [hK]; simp
  have kb : ∀ Z, (K ++ Z)[H.length]? = some (bBase b) := fun Z => by rw [hK]; simp
  have L := fun (st : St) (hE : keepEnv st.1 [1, 2, 3, 7] = [(1, eItems f), (2, .int .i64 (i : Int)), (3, .ptr H.length 0 4 0 0), (7, .nils)]) (hH : st.2 = K) (z : Option (CX × St)) (hz : itLim (evCode (evC cprog) itLim c38_l0) st = z) =>
    loop_rule (σ := Int × List Int × Heap × AV) (m := [1, 2, 3, 7]) (env := fun s => [(1, eItems f), (2, .int .i64 s.1), (3, .ptr H.length 0 4 0 0), (7, s.2.2.2)]) (hp := fun s => K ++ s.2.2.1)
    (P := fun _ r => ∃ T X rv, r = (.exit 0, T, K ++ X) ∧ keepEnv T [7] = [(7, rv)] ∧ Out K.length 1 3 X rv ((pth b.types f i).map rI))
    (mu := fun s => (s.1 + 1).toNat) (I := fun s => Walks b f i s.1 s.2.1 ∧ Out K.length 1 3 s.2.2.1 s.2.2.2 (s.2.1.map rI)) (evCode (evC cprog) itLim c38_l0) (by
      intro ⟨c, acc, X, rv⟩ ⟨w, hO⟩ E hE
      simp only at w hO hE ⊢
      have h1 := w.lo
      have h2 := w.hi
      have h3 := w.len
      by_cases hc : 0 ≤ c
      · obtain ⟨c, rfl⟩ : ∃ k : Nat, c = (k : Int) := ⟨c.toNat, by omega⟩
        have h82 := fun H => f34r b f hr c (by omega) H
        have w2 := w.step
        have hnew : Out K.length 1 3 (X ++ [⟨0, true, 3, 1, [[.int .i64 (c : Int)]]⟩]) (.ref (K.length + X.length) 0 1 0 1) [[.int .i64 (c : Int)]] := .inr ⟨by simp, X.length, 0, rfl, by simp⟩
        obtain ⟨rv1, X1, a1, t1, O1⟩ := hnew.app K rfl 8 rv (acc.map rI) (out_src_more hO K rfl _) (rI_rows acc) (by simp [reach]; omega)
        have hra : [[AV.int .i64 (c : Int)]] ++ acc.map rI = ((c : Int) :: acc).map rI := by simp [rI]
        rw [hra] at O1
        simp only [bBase] at kb
        simp only [eBase] at h82
        have hpl := par_lt b.types f c
        simp only [c38_l0, hE, hc, kb, h82, a1, t1, evX, Int.reduceEq, Int.reduceLT, Int.reduceLE, Nat.reduceMul, Nat.reduceMod, evW, fn_eq, evR, Nat.reduceAdd, Nat.reduceLT, Nat.reduceLeDiff, reduceIte, Nat.reduceEqDiff, reduceCtorEq, argEnv, eq_self, if_true, if_false]
        exact q_next (par b.types f c, (c : Int) :: acc, X1, rv1) (by rfl) rfl ⟨w2, O1⟩ (by simp only; omega) fun r h => h
      · simp only [c38_l0, hE, hc, evX, Int.reduceEq, Int.reduceLT, Int.reduceLE, Nat.reduceMul, Nat.reduceMod, evW, fn_eq, evR, Nat.reduceAdd, Nat.reduceLT, Nat.reduceLeDiff, reduceIte, Nat.reduceEqDiff, reduceCtorEq, argEnv, eq_self, if_true, if_false]
        rw [w.last (by omega)] at hO
        exact q_exit ⟨_, X, rv, rfl, by rfl, hO⟩) ((i : Int), [], [], .nils) st ⟨⟨by omega, by omega, by rw [pthI_nat, List.append_nil], by simp; omega⟩, .nils ..⟩ hE (by simpa using hH) z hz
  simp only [c38, eBase, evX, Int.reduceEq, Int.reduceLT, Int.reduceLE, Nat.reduceMul, Nat.reduceMod, evW, fn_eq, evR, Nat.reduceAdd, Nat.reduceLT, Nat.reduceLeDiff, reduceIte, Nat.reduceEqDiff, reduceCtorEq, argEnv, eq_self, if_true, if_false]
  generalize hz : itLim _ _ = z
  obtain ⟨_, rfl, T, X, rv, rfl, hT, hO⟩ := L _ (by rfl) (by rw [hK]; rfl) z hz
  clear hz L
  obtain ⟨ids, g1, g2, g3⟩ := fz_out' hO K rfl (plain_ints _)
  have ht := kt X
  have hsc := out_tup hO
  generalize K ++ X = Z at *
  simp only [hT, hsc, evX, Int.reduceEq, Int.reduceLT, Int.reduceLE, Nat.reduceMul, Nat.reduceMod, evW, fn_eq, evR, Nat.reduceAdd, Nat.reduceLT, Nat.reduceLeDiff, reduceIte, Nat.reduceEqDiff, reduceCtorEq, argEnv, eq_self, if_true, if_false]
  exact frz_one g1 g3 ht (fun k hk => by have := g2 k hk; omega)
end Go.Proofs.YtcbmakanokmdjaaDoor.Code

/- plain: full keys, of the program and of the document. -/
set_option linter.unusedSimpArgs false
set_option linter.unusedVariables false
namespace Go.Proofs.YtcbmakanokmdjaaDoor.Code
open Go.Proofs.YtcbmakanokmdjaaDoor.Ev

/-- the key of an item -/
def keyA (b : Base) (f : List Item) (k : Int) : ByteArray := keyOf (tyOf b.types (typ f k)) (dat f k)
/-- the keys on the path of an item -/
def fkL (b : Base) (f : List Item) (i : Nat) : List ByteArray := (pth b.types f i).map (keyA b f)
theorem keyOf_size {t : Ty} (ht : tyOk t = true) (d : ByteArray) : (keyOf t d).size ≤ 40 := by
  by_cases h0 : t.key < 0
  · simp only [keyOf, h0, if_true]
    exact Nat.zero_le _
  · obtain ⟨m, k, g1, g2, g3, g4, g5, g6⟩ := key_in ht (by omega)
    have : ¬ (m : Int) < 0 := by omega
    simp only [keyOf, g1, this, if_false, Int.toNat_natCast, g2]
    rw [ByteArray.size_extract]
    omega
theorem fk_at {b : Base} {f : List Item} (hr : Right b f) {i : Nat} (hi : i < f.length) {a : Int} (ha : a ∈ pth b.types f i) :
    ∃ (j : Nat) (x : Item) (k : Nat) (t : Ty), a = (j : Int) ∧ j ≤ i ∧ f[j]? = some x ∧ x.type = (k : Int) ∧ b.types[k]? = some t ∧ tyOk t = true ∧ t.min ≤ x.data.size ∧ keyA b f a = keyOf t x.data := by
  have hb := pth_bound ha
  obtain ⟨j, rfl⟩ : ∃ j : Nat, a = (j : Int) := ⟨a.toNat, by omega⟩
  obtain ⟨x, k, t, h1, h2, h3, h4, h5, h6, _⟩ := hr.item (show j < f.length by omega)
  refine ⟨j, x, k, t, rfl, by omega, h1, h2, h4, h5, h6, ?_⟩
  have hd : dat f (j : Int) = x.data := by simp [dat, h1]
  rw [keyA, typ_at h1, h2, tyOf_at h4, hd]
theorem fk_len {b : Base} {f : List Item} (hr : Right b f) {i : Nat} (hi : i < f.length) : (pth b.types f i).length ≤ 5 := by
  obtain ⟨x, k, t, h1, h2, h3, _⟩ := hr.item hi
  rw [pth_len hr i i (Nat.le_refl _) hi, typ_at h1, h2, Int.toNat_natCast]
  exact (anc_len8 hr h3).1
theorem fk_size {b : Base} {f : List Item} (hr : Right b f) {i : Nat} (hi : i < f.length) : ∀ s ∈ fkL b f i, s.size ≤ 1000 := by
  intro s hs
  obtain ⟨a, ha, rfl⟩ := List.mem_map.1 hs
  obtain ⟨_, x, _, t, _, _, _, _, _, h5, _, h7⟩ := fk_at hr hi ha
  rw [h7]
  have := keyOf_size h5 x.data
  omega
def fkG (b : Base) (f : List Item) (_ : Nat) (a : Int) : List ByteArray := [keyA b f a]
theorem fkG_map (b : Base) (f : List Item) : ∀ (l : List Int) (k : Nat), gath (fkG b f) k l = l.map (keyA b f)
  | [], _ => rfl
  | a :: l, k => by rw [gath, fkG_map b f l (k + 1)]; rfl
theorem out_slS {n ty : Nat} {X : Heap} {rv : AV} {l : List ByteArray} (h : Out n 1 ty X rv (l.map rS)) (H0 : Heap) (hn : n = H0.length) : SlAt (H0 ++ X) 1 rv (l.map rS) := out_slat h H0 hn fun r hr => by obtain ⟨_, _, rfl⟩ := List.mem_map.1 hr; rfl
set_option maxHeartbeats 4000000 in
theorem f28 (b : Base) (f : List Item) (hr : Right b f) (i : Nat) (hi : i < f.length) (H : Heap) : cal (evC cprog) true 28 [eBase b, eItems f, .int .i64 (i : Int)] H = some (eU (keyU (fkL b f i)), H) := by
  rw [cal_of at28]
  have h37 := f37 b f hr i hi
  simp only [eBase] at h37
  have hpl := fk_len hr hi
  have hlen := (sIs [] (pth b.types f i)).len
  simp only [List.length_map] at hlen
  obtain ⟨K, hK⟩ : ∃ K : Heap, K = H ++ [bBase b] := ⟨_, rfl⟩
  have kl : K.length = H.length + 1 := by rw [hK]; simp
  have kt : ∀ Z, (K ++ Z).take H.length = H := fun Z => by rw [hK]; simp
  have kb : ∀ Z, (K ++ Z)[H.length]? = some (bBase b) := fun Z => by rw [hK]; simp
  simp only [bBase] at kb
  have L := fun (st : St) (hE : keepEnv st.1 [1, 3, 7, 13, 14, 15] = [(1, eItems f), (3, .ptr H.length 0 4 0 0), (7, .nils), (13, eIs (pth b.types f i)), (14, .int .i64 ((pth b.types f i).length : Int)), (15, .int .i64 0)]) (hH : st.2 = K) (z : Option (CX × St)) (hz : itLim (evCode (evC cprog) itLim c28_l0) st = z) =>
    gath_rule (pth b.types f i) (fkG b f) rS [1, 3, 7, 13, 14, 15] (fun j rv => [(1, eItems f), (3, .ptr H.length 0 4 0 0), (7, rv), (13, eIs (pth b.types f i)), (14, .int .i64 ((pth b.types f i).length : Int)), (15, .int .i64 (j : Int))]) K 1 9 (evCode (evC cprog) itLim c28_l0) 0 [7] (fun rv => [(7, rv)])
    (fun j a hx E X rv hE hO => by
      have hlt : j < (pth b.types f i).length := (List.getElem?_eq_some_iff.1 hx).1
      have hj : (j : Int) < ((pth b.types f i).length : Int) := by omega
      have hw := wrapS hlt (by omega)
      have hai := aI hx
      obtain ⟨n, x, k, t, rfl, hni, h1, h2, h3, h4, h5, h6⟩ := fk_at hr hi (List.mem_of_getElem? hx)
      have ha := aItem h1
      have hat := aTy h3
      rw [← h2] at hat
      have h48 := f48 t h4 x.data h5
      simp only [rTy] at h48
      have hgl := gath_len (fkG b f) (fun i x => by simp [fkG]) ((pth b.types f i).take j) 0
      rw [List.length_take] at hgl
      obtain ⟨rv1, X1, a1, a2, a3, _⟩ := app_row hO K rfl 16 (rS (keyOf t x.data)) rfl (by simp only [List.length_map, reach]; omega)
      simp only [rS] at a1
      simp only [c28_l0, hE, hj, hai, rI, ha, rItem, hat, rTy, kb, h48, a1, a2, hw, evX, Int.reduceEq, Int.reduceLT, Int.reduceLE, Nat.reduceMul, Nat.reduceMod, evW, fn_eq, evR, Nat.reduceAdd, Nat.reduceLT, Nat.reduceLeDiff, reduceIte, Nat.reduceEqDiff, reduceCtorEq, argEnv, eq_self, if_true, if_false]
      exact ⟨_, _, _, rfl, by rfl, by simpa [fkG, h6, rS] using a3⟩)
    (fun E X rv hE => by
      simp only [c28_l0, hE, Int.lt_irrefl, evX, Int.reduceEq, Int.reduceLT, Int.reduceLE, Nat.reduceMul, Nat.reduceMod, evW, fn_eq, evR, Nat.reduceAdd, Nat.reduceLT, Nat.reduceLeDiff, reduceIte, Nat.reduceEqDiff, reduceCtorEq, argEnv, eq_self, if_true, if_false]
      exact ⟨_, rfl, by rfl⟩) st [] .nils (.nils ..) hE (by simpa using hH) z hz
  simp only [c28, eBase, h37, hlen, evX, Int.reduceEq, Int.reduceLT, Int.reduceLE, Nat.reduceMul, Nat.reduceMod, evW, fn_eq, evR, Nat.reduceAdd, Nat.reduceLT, Nat.reduceLeDiff, reduceIte, Nat.reduceEqDiff, reduceCtorEq, argEnv, eq_self, if_true, if_false]
  generalize hz : itLim _ _ = z
  obtain ⟨T, X, rv, rfl, hT, hO⟩ := L _ (by rfl) (by rw [hK]; rfl) z hz
  clear hz L
  rw [fkG_map] at hO
  have h49 := f49 rv (fkL b f i) (by simp only [fkL, List.length_map]; omega) (fk_size hr hi) (K ++ X) (out_slS hO K rfl)
  have ht := kt X
  have hsc := out_tup hO
  generalize K ++ X = Z at *
  simp only [hT, hsc, h49, evX, Int.reduceEq, Int.reduceLT, Int.reduceLE, Nat.reduceMul, Nat.reduceMod, evW, fn_eq, evR, Nat.reduceAdd, Nat.reduceLT, Nat.reduceLeDiff, reduceIte, Nat.reduceEqDiff, reduceCtorEq, argEnv, eq_self, if_true, if_false]
  exact frz_one (ids := []) rfl rfl ht (by simp)
set_option maxHeartbeats 4000000 in
theorem f30 (b : Base) (f : List Item) (hr : Right b f) (i : Nat) (hi : i < f.length) (H : Heap) : cal (evC cprog) true 30 [eBase b, eItems f, .int .i64 (i : Int)] H = some (eU (keyU (fkL b f i)), H) := by
  rw [cal_of at30]
  have h38 := f38 b f hr i hi
  simp only [eBase] at h38
  have hpl := fk_len hr hi
  have hlen := (sIs [] (pth b.types f i)).len
  simp only [List.length_map] at hlen
  obtain ⟨K, hK⟩ : ∃ K : Heap, K = H ++ [bBase b] := ⟨_, rfl⟩
  have kl : K.length = H.length + 1 := by rw [hK]; simp
  have kt : ∀ Z, (K ++ Z).take H.length = H := fun Z => by rw [hK]; simp
  have kb : ∀ Z, (K ++ Z)[H.length]? = some (bBase b) := fun Z => by rw [hK]; simp
  simp only [bBase] at kb
  have L := fun (st : St) (hE : keepEnv st.1 [1, 3, 7, 8, 9] = [(1, eItems f), (3, .ptr H.length 0 4 0 0), (7, .nils), (8, eIs (pth b.types f i)), (9, .int .i64 0)]) (hH : st.2 = K) (z : Option (CX × St)) (hz : itLim (evCode (evC cprog) itLim c30_l0) st = z) =>
    gath_rule (pth b.types f i) (fkG b f) rS [1, 3, 7, 8, 9] (fun j rv => [(1, eItems f), (3, .ptr H.length 0 4 0 0), (7, rv), (8, eIs (pth b.types f i)), (9, .int .i64 (j : Int))]) K 1 9 (evCode (evC cprog) itLim c30_l0) 0 [7] (fun rv => [(7, rv)])
    (fun j a hx E X rv hE hO => by
      have hlt : j < (pth b.types f i).length := (List.getElem?_eq_some_iff.1 hx).1
      have hj : (j : Int) < ((pth b.types f i).length : Int) := by omega
      have hw := wrapS hlt (by omega)
      have hai := aI hx
      obtain ⟨n, x, k, t, rfl, hni, h1, h2, h3, h4, h5, h6⟩ := fk_at hr hi (List.mem_of_getElem? hx)
      have ha := aItem h1
      have h50 := f50 b x k t h2 h3 h4 h5
      simp only [eBase, rItem] at h50
      have hgl := gath_len (fkG b f) (fun i x => by simp [fkG]) ((pth b.types f i).take j) 0
      rw [List.length_take] at hgl
      obtain ⟨rv1, X1, a1, a2, a3, _⟩ := app_row hO K rfl 16 (rS (keyOf t x.data)) rfl (by simp only [List.length_map, reach]; omega)
      simp only [rS] at a1
      simp only [c30_l0, hE, hj, hlen, hai, rI, ha, rItem, kb, h50, a1, a2, hw, evX, Int.reduceEq, Int.reduceLT, Int.reduceLE, Nat.reduceMul, Nat.reduceMod, evW, fn_eq, evR, Nat.reduceAdd, Nat.reduceLT, Nat.reduceLeDiff, reduceIte, Nat.reduceEqDiff, reduceCtorEq, argEnv, eq_self, if_true, if_false]
      exact ⟨_, _, _, rfl, by rfl, by simpa [fkG, h6, rS] using a3⟩)
    (fun E X rv hE => by
      simp only [c30_l0, hE, hlen, Int.lt_irrefl, evX, Int.reduceEq, Int.reduceLT, Int.reduceLE, Nat.reduceMul, Nat.reduceMod, evW, fn_eq, evR, Nat.reduceAdd, Nat.reduceLT, Nat.reduceLeDiff, reduceIte, Nat.reduceEqDiff, reduceCtorEq, argEnv, eq_self, if_true, if_false]
      exact ⟨_, rfl, by rfl⟩) st [] .nils (.nils ..) hE (by simpa using hH) z hz
  simp only [c30, eBase, h38, evX, Int.reduceEq, Int.reduceLT, Int.reduceLE, Nat.reduceMul, Nat.reduceMod, evW, fn_eq, evR, Nat.reduceAdd, Nat.reduceLT, Nat.reduceLeDiff, reduceIte, Nat.reduceEqDiff, reduceCtorEq, argEnv, eq_self, if_true, if_false]
  generalize hz : itLim _ _ = z
  obtain ⟨T, X, rv, rfl, hT, hO⟩ := L _ (by rfl) (by rw [hK]; rfl) z hz
  clear hz L
  rw [fkG_map] at hO
  have h51 := f51 rv (fkL b f i) (by simp only [fkL, List.length_map]; omega) (fk_size hr hi) (K ++ X) (out_slS hO K rfl)
  have ht := kt X
  have hsc := out_tup hO
  generalize K ++ X = Z at *
  simp only [hT, hsc, h51, evX, Int.reduceEq, Int.reduceLT, Int.reduceLE, Nat.reduceMul, Nat.reduceMod, evW, fn_eq, evR, Nat.reduceAdd, Nat.reduceLT, Nat.reduceLeDiff, reduceIte, Nat.reduceEqDiff, reduceCtorEq, argEnv, eq_self, if_true, if_false]
  exact frz_one (ids := []) rfl rfl ht (by simp)
end Go.Proofs.YtcbmakanokmdjaaDoor.Code

/- slices.DeleteFunc on a slice of numbers of its own; children as a slice that may be written. -/
set_option linter.unusedSimpArgs false
set_option linter.unusedVariables false
namespace Go.Proofs.YtcbmakanokmdjaaDoor.Code
open Go.Proofs.YtcbmakanokmdjaaDoor.Ev

/-- what is kept of the first ones, and what stands behind them as it stood -/
structure Del (l : List Int) (p : Int → Bool) (j i : Nat) (els : List (List AV)) : Prop where
  lt : i < j
  le : j ≤ l.length
  len : els.length = l.length
  num : i = ((l.take j).filter fun x => !p x).length
  kept : els.take i = ((l.take j).filter fun x => !p x).map rI
  rest : ∀ k, j ≤ k → els[k]? = (l.map rI)[k]?
  one : ∀ (k : Nat) (r : List AV), els[k]? = some r → ∃ y, r = [y]
theorem Del.skip {l : List Int} {p : Int → Bool} {j i : Nat} {els : List (List AV)} (D : Del l p j i els) {x : Int} (hx : l[j]? = some x) (hp : p x = true) : Del l p (j + 1) i els := by
  have hlt := (List.getElem?_eq_some_iff.1 hx).1
  have e : (l.take (j + 1)).filter (fun x => !p x) = (l.take j).filter fun x => !p x := by
    rw [List.take_add_one, hx, Option.toList_some, List.filter_append]; simp [hp]
  exact ⟨by have := D.lt; omega, by omega, D.len, by rw [e]; exact D.num, by rw [e]; exact D.kept, fun k hk => D.rest k (by omega), D.one⟩
theorem Del.keep {l : List Int} {p : Int → Bool} {j i : Nat} {els : List (List AV)} (D : Del l p j i els) {x : Int} (hx : l[j]? = some x) (hp : p x = false) : Del l p (j + 1) (i + 1) (els.set i [.int .i64 x]) := by
  have hlt := (List.getElem?_eq_some_iff.1 hx).1
  have h1 := D.lt
  have h2 := D.len
  have e : (l.take (j + 1)).filter (fun x => !p x) = ((l.take j).filter fun x => !p x) ++ [x] := by
    rw [List.take_add_one, hx, Option.toList_some, List.filter_append]; simp [hp]
  refine ⟨by omega, by omega, by simpa using h2, by rw [e, List.length_append, ← D.num]; rfl, ?_, fun k hk => ?_, fun k r hr => ?_⟩
  · rw [e, List.map_append, ← D.kept, List.take_add_one, List.getElem?_set_self (by omega), Option.toList_some, List.take_set_of_le (Nat.le_refl _)]; rfl
  · rw [List.getElem?_set_ne (by omega)]
    exact D.rest k (by omega)
  · by_cases hk : i = k
    · subst hk
      rw [List.getElem?_set_self (by omega)] at hr
      cases hr; exact ⟨_, rfl⟩
    · rw [List.getElem?_set_ne hk] at hr
      exact D.one k r hr
theorem idxOf_split {α : Type} {p : α → Bool} : ∀ {l : List α} {m : Nat}, idxOf p l = (m : Int) → m < l.length ∧ (∀ a ∈ l.take m, p a = false) ∧ ∃ a, l[m]? = some a ∧ p a = true
  | [], m, h => by simp [idxOf] at h <;> omega
  | x :: l, m, h => by
    unfold idxOf at h
    rw [List.findIdx?_cons] at h
    by_cases hx : p x = true
    · rw [if_pos hx] at h
      have : m = 0 := by simp at h <;> omega
      subst this
      exact ⟨by simp, by simp, x, rfl, hx⟩
    · rw [if_neg hx] at h
      cases hf : l.findIdx? p with
      | none => rw [hf] at h; simp at h <;> omega
      | some k =>
        rw [hf] at h
        simp at h
        obtain ⟨h1, h2, a, h3, h4⟩ := idxOf_split (p := p) (l := l) (m := k) (by unfold idxOf; rw [hf])
        have : m = k + 1 := by omega
        subst this
        refine ⟨by simp; omega, fun a ha => ?_, a, by simpa using h3, h4⟩
        rw [List.take_succ_cons] at ha
        rcases List.mem_cons.1 ha with rfl | ha
        · simpa using hx
        · exact h2 a ha
theorem set_same {H : Heap} {b : Nat} {k : Blk} (h : H[b]? = some k) : H.set b k = H := List.ext_getElem? fun j => by
  by_cases e : b = j
  · subst e; rw [List.getElem?_set_self (List.getElem?_eq_some_iff.1 h).1, h]
  · rw [List.getElem?_set_ne e]
set_option maxHeartbeats 4000000 in
theorem f39 (H : Heap) (b v n : Nat) (l : List Int) (hb : H[b]? = some ⟨v, true, 3, 1, l.map rI⟩) (hn : n = l.length) (h0 : 0 < n) (hl : n ≤ 1000) (g : Nat) (caps : List AV) (p : Int → Bool)
    (hp : ∀ x ∈ l, ∀ els, cal (evC cprog) false g (.int .i64 x :: caps) (H.set b ⟨v, true, 3, 1, els⟩) = some (.bool (p x), H.set b ⟨v, true, 3, 1, els⟩)) :
    ∃ els, cal (evC cprog) false 39 [.ref b v 1 0 n, .fn g caps] H = some (.ref b v 1 0 (l.filter fun x => !p x).length, H.set b ⟨v, true, 3, 1, els⟩) ∧ els.take (l.filter fun x => !p x).length = (l.filter fun x => !p x).map rI ∧ (l.filter fun x => !p x).length ≤ els.length := by
  rw [cal_of at39]
  have hbl := (List.getElem?_eq_some_iff.1 hb).1
  have hH := set_same hb
  have hsl : SlAt H 1 (.ref b v 1 0 n) (l.map rI) := by
    rw [hn]
    have := SlAt.ref (H := H) (b := b) (v := v) (sz := 1) (off := 0) (rows := l.map rI) (k := ⟨v, true, 3, 1, l.map rI⟩) (by simp [curBlk, hb]) fun j row hj => ⟨rI_rows l row (List.mem_of_getElem? hj), by rw [Nat.zero_add]; exact hj⟩
    simpa using this
  have h59 := indexFunc_ok (sz := 1) (ag := false) at59 rI (fun x => .int .i64 x) lI g caps p H (.ref b v 1 0 n) l hsl (by omega) fun x hx => by
    have := hp x hx (l.map rI)
    rwa [hH] at this
  have hat : ∀ B : Blk, (H.set b B)[b]? = some B := fun B => List.getElem?_set_self hbl
  rcases idxOf_cases p l with ⟨hi, hall⟩ | ⟨m, a, hm, _, _⟩
  · have e : l.filter (fun x => !p x) = l := List.filter_eq_self.2 fun a ha => by simp [hall a ha]
    rw [e]
    refine ⟨l.map rI, ?_, by rw [List.take_of_length_le (by simp)], by simp⟩
    rw [hH]
    simp only [c39, h59, hi, evX, Int.reduceEq, Int.reduceLT, Int.reduceLE, Nat.reduceMul, Nat.reduceMod, evW, fn_eq, evR, Nat.reduceAdd, Nat.reduceLT, Nat.reduceLeDiff, reduceIte, Nat.reduceEqDiff, reduceCtorEq, argEnv, eq_self, if_true, if_false]
    rw [hn]
  · obtain ⟨m1, m2, a, m3, m4⟩ := idxOf_split hm
    have hw0 : IntKind.i64.wrap ((m : Int) + 1) = ((m + 1 : Nat) : Int) := wrapS m1 (by omega)
    have hne : ¬ (m : Int) = -1 := by omega
    have D0 : Del l p (m + 1) m (l.map rI) := by
      have e : (l.take m).filter (fun x => !p x) = l.take m := List.filter_eq_self.2 fun a ha => by simp [m2 a ha]
      have e2 : (l.take (m + 1)).filter (fun x => !p x) = l.take m := by
        rw [List.take_add_one, m3, Option.toList_some, List.filter_append, e]; simp [m4]
      exact ⟨by omega, by omega, by simp, by rw [e2, List.length_take]; omega, by rw [e2, List.map_take], fun _ _ => rfl, fun k r hr => by
        rw [List.getElem?_map] at hr
        cases hk : l[k]? with
        | none => rw [hk] at hr; cases hr
        | some x => rw [hk] at hr; cases hr; exact ⟨_, rfl⟩⟩
    rw [hm] at h59
    have L := fun (st : St) (hE : keepEnv st.1 [0, 1, 5, 6] = [(0, .ref b v 1 0 n), (1, .fn g caps), (5, .int .i64 (m : Int)), (6, .int .i64 ((m + 1 : Nat) : Int))]) (hS : st.2 = H) (z : Option (CX × St)) (hz : itLim (evCode (evC cprog) itLim c39_l0) st = z) =>
      loop_rule (σ := Nat × Nat × List (List AV)) (m := [0, 1, 5, 6]) (env := fun s => [(0, .ref b v 1 0 n), (1, .fn g caps), (5, .int .i64 (s.2.1 : Int)), (6, .int .i64 (s.1 : Int))]) (hp := fun s => H.set b ⟨v, true, 3, 1, s.2.2⟩)
      (P := fun _ r => ∃ (T : Env) (i : Nat) (els : List (List AV)), r = (.exit 0, T, H.set b ⟨v, true, 3, 1, els⟩) ∧ keepEnv T [0, 5] = [(0, .ref b v 1 0 n), (5, .int .i64 (i : Int))] ∧ Del l p l.length i els)
      (mu := fun s => l.length - s.1) (I := fun s => Del l p s.1 s.2.1 s.2.2) (evCode (evC cprog) itLim c39_l0) (by
        intro ⟨j, i, els⟩ D E hE
        simp only at D hE ⊢
        have d1 := D.lt
        have d2 := D.le
        by_cases hlt : j < l.length
        · obtain ⟨x, hx⟩ : ∃ x, l[j]? = some x := ⟨_, List.getElem?_eq_getElem hlt⟩
          have hj : (j : Int) < (n : Int) := by omega
          have hjn : j < n := by omega
          have hin : i < n := by omega
          have hel : els[j]? = some [.int .i64 x] := by rw [D.rest j (Nat.le_refl _), List.getElem?_map, hx]; rfl
          obtain ⟨y, hy⟩ : ∃ y, els[i]? = some [y] := by
            have hi2 : i < els.length := by have := D.len; omega
            obtain ⟨y, hy⟩ := D.one i _ (List.getElem?_eq_getElem hi2)
            exact ⟨y, by rw [List.getElem?_eq_getElem hi2, hy]⟩
          have hpx := hp x (List.mem_of_getElem? hx) els
          have hwj := wrapS (i := j) (n := 1001) (by omega) (by omega)
          have hwi := wrapS (i := i) (n := 1001) (by omega) (by omega)
          cases hpp : p x with
          | true =>
            rw [hpp] at hpx
            simp only [c39_l0, hE, hj, hjn, hat, hel, hpx, hwj, asNat_cast, evX, Int.reduceEq, Int.reduceLT, Int.reduceLE, Nat.reduceMul, Nat.reduceMod, evW, fn_eq, evR, Nat.reduceAdd, Nat.reduceLT, Nat.reduceLeDiff, reduceIte, Nat.reduceEqDiff, reduceCtorEq, argEnv, eq_self, if_true, if_false]
            exact q_next (j + 1, i, els) (by rfl) rfl (D.skip hx hpp) (by simp only; omega) fun r h => h
          | false =>
            rw [hpp] at hpx
            simp only [c39_l0, hE, hj, hjn, hin, hat, hel, hy, hpx, List.set_set, hwj, hwi, asNat_cast, evX, Int.reduceEq, Int.reduceLT, Int.reduceLE, Nat.reduceMul, Nat.reduceMod, evW, fn_eq, evR, Nat.reduceAdd, Nat.reduceLT, Nat.reduceLeDiff, reduceIte, Nat.reduceEqDiff, reduceCtorEq, argEnv, eq_self, if_true, if_false]
            exact q_next (j + 1, i + 1, els.set i [.int .i64 x]) (by rfl) rfl (D.keep hx hpp) (by simp only; omega) fun r h => h
        · have hj : ¬ (j : Int) < (n : Int) := by omega
          have : j = l.length := by omega
          subst this
          simp only [c39_l0, hE, hj, evX, Int.reduceEq, Int.reduceLT, Int.reduceLE, Nat.reduceMul, Nat.reduceMod, evW, fn_eq, evR, Nat.reduceAdd, Nat.reduceLT, Nat.reduceLeDiff, reduceIte, Nat.reduceEqDiff, reduceCtorEq, argEnv, eq_self, if_true, if_false]
          exact q_exit ⟨_, i, els, rfl, by rfl, D⟩) (m + 1, m, l.map rI) st D0 hE (by rw [hH]; exact hS) z hz
    simp only [c39, h59, hne, hw0, evX, Int.reduceEq, Int.reduceLT, Int.reduceLE, Nat.reduceMul, Nat.reduceMod, evW, fn_eq, evR, Nat.reduceAdd, Nat.reduceLT, Nat.reduceLeDiff, reduceIte, Nat.reduceEqDiff, reduceCtorEq, argEnv, eq_self, if_true, if_false]
    generalize hz : itLim _ _ = z
    obtain ⟨_, rfl, T, i, els, rfl, hT, D⟩ := L _ (by rfl) rfl z hz
    clear hz L
    have d1 := D.lt
    have d2 := D.num
    rw [List.take_of_length_le (Nat.le_refl _)] at d2
    have d3 := D.kept
    rw [List.take_of_length_le (Nat.le_refl _)] at d3
    have d4 := D.len
    obtain ⟨c, hc⟩ : ∃ c, n - i = c + 1 := ⟨n - i - 1, by omega⟩
    have hs1 : evSlc (H.set b ⟨v, true, 3, 1, els⟩) 1 (.ref b v 1 0 n) (some i) none none = some (.ref b v 1 i (c + 1)) := by
      simp only [evSlc, Option.getD_some, Option.getD_none, if_true]
      rw [if_pos ⟨by omega, Nat.le_refl _⟩, hc]; simp
    have hs2 : ∀ K, evSlc K 1 (.ref b v 1 0 n) none (some i) none = some (.ref b v 1 0 i) := fun K => by
      simp only [evSlc, Option.getD_some, Option.getD_none, if_true]
      rw [if_pos ⟨by omega, by omega⟩]; simp
    have hcl : evClear 1 [.int .i64 0] (H.set b ⟨v, true, 3, 1, els⟩) (.ref b v 1 i (c + 1)) = some (H.set b ⟨v, true, 3, 1, els.take i ++ List.replicate (c + 1) [.int .i64 0] ++ els.drop (i + (c + 1))⟩) := by
      simp only [evClear, curBlk, hat, if_true, List.set_set]
      simp
    refine ⟨els.take i ++ List.replicate (c + 1) [.int .i64 0] ++ els.drop (i + (c + 1)), ?_, ?_, ?_⟩
    · rw [← d2]
      simp only [hT, hs1, hs2, hcl, asNat_cast, evX, Int.reduceEq, Int.reduceLT, Int.reduceLE, Nat.reduceMul, Nat.reduceMod, evW, fn_eq, evR, Nat.reduceAdd, Nat.reduceLT, Nat.reduceLeDiff, reduceIte, Nat.reduceEqDiff, reduceCtorEq, argEnv, eq_self, if_true, if_false]
      rw [gc_no _ _ _ rfl]
    · rw [← d2, ← d3, List.append_assoc, List.take_append_of_le_length (by rw [List.length_take]; omega), List.take_take, Nat.min_self]
    · rw [← d2]
      simp only [List.length_append, List.length_take, List.length_replicate, List.length_drop]; omega
end Go.Proofs.YtcbmakanokmdjaaDoor.Code

/- plain: Parent, End, Path and FullKey, of the program and of the document. -/
set_option linter.unusedSimpArgs false
set_option linter.unusedVariables false
namespace Go.Proofs.YtcbmakanokmdjaaDoor.Code
open Go.Proofs.YtcbmakanokmdjaaDoor.Ev

theorem errF_at {b : Base} (hb : b.Ok) {f : List Item} {i : Int} (he : errF b f [i] = 0) : Right b f ∧ ∃ j : Nat, i = (j : Int) ∧ j < f.length := by
  obtain ⟨hr, ho⟩ := errF_zero hb he
  obtain ⟨h0, h1⟩ := ho i (by simp)
  exact ⟨hr, i.toNat, by omega, by omega⟩
noncomputable def parV (b : Base) (f : List Item) (i : Int) : Int := if errF b f [i] = 0 then par b.types f i.toNat else 0
noncomputable def endV (b : Base) (f : List Item) (i : Int) : Int := if errF b f [i] = 0 then (endOf b.types f i.toNat : Int) else 0
noncomputable def pthV (b : Base) (f : List Item) (i : Int) : List Int := if errF b f [i] = 0 then pth b.types f i.toNat else []
noncomputable def keyV (b : Base) (f : List Item) (i : Int) : List UInt8 := if errF b f [i] = 0 then keyU (fkL b f i.toNat) else []
theorem f12 (b : Base) (hb : b.Ok) (f : List Item) (hfl : f.length < 9223372036854775807) (i : Int) (H : Heap) : cal (evC cprog) false 12 [eBase b, eItems f, .int .i64 i] H = some (.tup [.int .i64 (parV b f i), .int .i64 (errF b f [i])], H) := by
  rw [cal_of at12]
  have h26 := f26 b hb f (.ref (H.length + 1) 0 1 0 1) rfl [i] (by simp) (H ++ [bBase b, bI i]) (one_slat H i [bBase b])
  simp only [eBase, bBase, bI] at h26
  by_cases he : errF b f [i] = 0
  · obtain ⟨hr, j, rfl, hj⟩ := errF_at hb he
    have hc := fun K => f33 b f hr j hj K
    simp only [eBase] at hc
    have hv : parV b f (j : Int) = _ := if_pos he
    rw [Int.toNat_natCast] at hv
    rw [hv, he]
    rw [he] at h26
    simp only [c12, eBase, h26, hc, evX, Int.reduceEq, Int.reduceLT, Int.reduceLE, Nat.reduceMul, Nat.reduceMod, evW, fn_eq, evR, Nat.reduceAdd, Nat.reduceLT, Nat.reduceLeDiff, reduceIte, Nat.reduceEqDiff, reduceCtorEq, argEnv, eq_self, if_true, if_false]
  · have hv : parV b f i = 0 := if_neg he
    rw [hv]
    simp only [c12, eBase, h26, he, evX, Int.reduceEq, Int.reduceLT, Int.reduceLE, Nat.reduceMul, Nat.reduceMod, evW, fn_eq, evR, Nat.reduceAdd, Nat.reduceLT, Nat.reduceLeDiff, reduceIte, Nat.reduceEqDiff, reduceCtorEq, argEnv, eq_self, if_true, if_false]
theorem f13 (b : Base) (hb : b.Ok) (f : List Item) (hfl : f.length < 9223372036854775807) (i : Int) (H : Heap) : cal (evC cprog) false 13 [eBase b, eItems f, .int .i64 i] H = some (.tup [.int .i64 (parV b f i), .int .i64 (errF b f [i])], H) := by
  rw [cal_of at13]
  have h26 := f10 b hb f hfl (.ref (H.length + 1) 0 1 0 1) [i] (by simp) (H ++ [bBase b, bI i]) (one_slat H i [bBase b])
  simp only [eBase, bBase, bI] at h26
  by_cases he : errF b f [i] = 0
  · obtain ⟨hr, j, rfl, hj⟩ := errF_at hb he
    have hc := fun K => f34r b f hr j hj K
    simp only [eBase] at hc
    have hv : parV b f (j : Int) = _ := if_pos he
    rw [Int.toNat_natCast] at hv
    rw [hv, he]
    rw [he] at h26
    simp only [c13, eBase, h26, hc, evX, Int.reduceEq, Int.reduceLT, Int.reduceLE, Nat.reduceMul, Nat.reduceMod, evW, fn_eq, evR, Nat.reduceAdd, Nat.reduceLT, Nat.reduceLeDiff, reduceIte, Nat.reduceEqDiff, reduceCtorEq, argEnv, eq_self, if_true, if_false]
  · have hv : parV b f i = 0 := if_neg he
    rw [hv]
    simp only [c13, eBase, h26, he, evX, Int.reduceEq, Int.reduceLT, Int.reduceLE, Nat.reduceMul, Nat.reduceMod, evW, fn_eq, evR, Nat.reduceAdd, Nat.reduceLT, Nat.reduceLeDiff, reduceIte, Nat.reduceEqDiff, reduceCtorEq, argEnv, eq_self, if_true, if_false]
theorem f14 (b : Base) (hb : b.Ok) (f : List Item) (hfl : f.length < 9223372036854775807) (i : Int) (H : Heap) : cal (evC cprog) false 14 [eBase b, eItems f, .int .i64 i] H = some (.tup [.int .i64 (endV b f i), .int .i64 (errF b f [i])], H) := by
  rw [cal_of at14]
  have h26 := f26 b hb f (.ref (H.length + 1) 0 1 0 1) rfl [i] (by simp) (H ++ [bBase b, bI i]) (one_slat H i [bBase b])
  simp only [eBase, bBase, bI] at h26
  by_cases he : errF b f [i] = 0
  · obtain ⟨hr, j, rfl, hj⟩ := errF_at hb he
    have hc := fun K => f35 b f hr j hj K
    simp only [eBase] at hc
    have hv : endV b f (j : Int) = _ := if_pos he
    rw [Int.toNat_natCast] at hv
    rw [hv, he]
    rw [he] at h26
    simp only [c14, eBase, h26, hc, evX, Int.reduceEq, Int.reduceLT, Int.reduceLE, Nat.reduceMul, Nat.reduceMod, evW, fn_eq, evR, Nat.reduceAdd, Nat.reduceLT, Nat.reduceLeDiff, reduceIte, Nat.reduceEqDiff, reduceCtorEq, argEnv, eq_self, if_true, if_false]
  · have hv : endV b f i = 0 := if_neg he
    rw [hv]
    simp only [c14, eBase, h26, he, evX, Int.reduceEq, Int.reduceLT, Int.reduceLE, Nat.reduceMul, Nat.reduceMod, evW, fn_eq, evR, Nat.reduceAdd, Nat.reduceLT, Nat.reduceLeDiff, reduceIte, Nat.reduceEqDiff, reduceCtorEq, argEnv, eq_self, if_true, if_false]
theorem f15 (b : Base) (hb : b.Ok) (f : List Item) (hfl : f.length < 9223372036854775807) (i : Int) (H : Heap) : cal (evC cprog) false 15 [eBase b, eItems f, .int .i64 i] H = some (.tup [.int .i64 (endV b f i), .int .i64 (errF b f [i])], H) := by
  rw [cal_of at15]
  have h26 := f10 b hb f hfl (.ref (H.length + 1) 0 1 0 1) [i] (by simp) (H ++ [bBase b, bI i]) (one_slat H i [bBase b])
  simp only [eBase, bBase, bI] at h26
  by_cases he : errF b f [i] = 0
  · obtain ⟨hr, j, rfl, hj⟩ := errF_at hb he
    have hc := fun K => f36 b f hr j hj K
    simp only [eBase] at hc
    have hv : endV b f (j : Int) = _ := if_pos he
    rw [Int.toNat_natCast] at hv
    rw [hv, he]
    rw [he] at h26
    simp only [c15, eBase, h26, hc, evX, Int.reduceEq, Int.reduceLT, Int.reduceLE, Nat.reduceMul, Nat.reduceMod, evW, fn_eq, evR, Nat.reduceAdd, Nat.reduceLT, Nat.reduceLeDiff, reduceIte, Nat.reduceEqDiff, reduceCtorEq, argEnv, eq_self, if_true, if_false]
  · have hv : endV b f i = 0 := if_neg he
    rw [hv]
    simp only [c15, eBase, h26, he, evX, Int.reduceEq, Int.reduceLT, Int.reduceLE, Nat.reduceMul, Nat.reduceMod, evW, fn_eq, evR, Nat.reduceAdd, Nat.reduceLT, Nat.reduceLeDiff, reduceIte, Nat.reduceEqDiff, reduceCtorEq, argEnv, eq_self, if_true, if_false]
theorem f16 (b : Base) (hb : b.Ok) (f : List Item) (hfl : f.length < 9223372036854775807) (i : Int) (H : Heap) : cal (evC cprog) true 16 [eBase b, eItems f, .int .i64 i] H = some (.tup [eIs (pthV b f i), .int .i64 (errF b f [i])], H) := by
  rw [cal_of at16]
  have h26 := f26 b hb f (.ref (H.length + 1) 0 1 0 1) rfl [i] (by simp) (H ++ [bBase b, bI i]) (one_slat H i [bBase b])
  simp only [eBase, bBase, bI] at h26
  by_cases he : errF b f [i] = 0
  · obtain ⟨hr, j, rfl, hj⟩ := errF_at hb he
    have hc := fun K => f37 b f hr j hj K
    simp only [eBase] at hc
    have hv : pthV b f (j : Int) = _ := if_pos he
    rw [Int.toNat_natCast] at hv
    rw [hv, he]
    rw [he] at h26
    simp only [c16, eBase, h26, hc, evX, Int.reduceEq, Int.reduceLT, Int.reduceLE, Nat.reduceMul, Nat.reduceMod, evW, fn_eq, evR, Nat.reduceAdd, Nat.reduceLT, Nat.reduceLeDiff, reduceIte, Nat.reduceEqDiff, reduceCtorEq, argEnv, eq_self, if_true, if_false]
    exact frz_two (ids := []) rfl rfl (by simp) (by simp) _ _
  · have hv : pthV b f i = [] := if_neg he
    rw [hv]
    simp only [c16, eBase, h26, he, evX, Int.reduceEq, Int.reduceLT, Int.reduceLE, Nat.reduceMul, Nat.reduceMod, evW, fn_eq, evR, Nat.reduceAdd, Nat.reduceLT, Nat.reduceLeDiff, reduceIte, Nat.reduceEqDiff, reduceCtorEq, argEnv, eq_self, if_true, if_false]
    exact frz_two (fz_nils _) rfl (by simp) (by simp) _ _
theorem f17 (b : Base) (hb : b.Ok) (f : List Item) (hfl : f.length < 9223372036854775807) (i : Int) (H : Heap) : cal (evC cprog) true 17 [eBase b, eItems f, .int .i64 i] H = some (.tup [eIs (pthV b f i), .int .i64 (errF b f [i])], H) := by
  rw [cal_of at17]
  have h26 := f10 b hb f hfl (.ref (H.length + 1) 0 1 0 1) [i] (by simp) (H ++ [bBase b, bI i]) (one_slat H i [bBase b])
  simp only [eBase, bBase, bI] at h26
  by_cases he : errF b f [i] = 0
  · obtain ⟨hr, j, rfl, hj⟩ := errF_at hb he
    have hc := fun K => f38 b f hr j hj K
    simp only [eBase] at hc
    have hv : pthV b f (j : Int) = _ := if_pos he
    rw [Int.toNat_natCast] at hv
    rw [hv, he]
    rw [he] at h26
    simp only [c17, eBase, h26, hc, evX, Int.reduceEq, Int.reduceLT, Int.reduceLE, Nat.reduceMul, Nat.reduceMod, evW, fn_eq, evR, Nat.reduceAdd, Nat.reduceLT, Nat.reduceLeDiff, reduceIte, Nat.reduceEqDiff, reduceCtorEq, argEnv, eq_self, if_true, if_false]
    exact frz_two (ids := []) rfl rfl (by simp) (by simp) _ _
  · have hv : pthV b f i = [] := if_neg he
    rw [hv]
    simp only [c17, eBase, h26, he, evX, Int.reduceEq, Int.reduceLT, Int.reduceLE, Nat.reduceMul, Nat.reduceMod, evW, fn_eq, evR, Nat.reduceAdd, Nat.reduceLT, Nat.reduceLeDiff, reduceIte, Nat.reduceEqDiff, reduceCtorEq, argEnv, eq_self, if_true, if_false]
    exact frz_two (fz_nils _) rfl (by simp) (by simp) _ _
theorem f11 (b : Base) (hb : b.Ok) (f : List Item) (hfl : f.length < 9223372036854775807) (i : Int) (H : Heap) : cal (evC cprog) true 11 [eBase b, eItems f, .int .i64 i] H = some (.tup [eU (keyV b f i), .int .i64 (errF b f [i])], H) := by
  rw [cal_of at11]
  have h26 := f26 b hb f (.ref (H.length + 1) 0 1 0 1) rfl [i] (by simp) (H ++ [bBase b, bI i]) (one_slat H i [bBase b])
  simp only [eBase, bBase, bI] at h26
  by_cases he : errF b f [i] = 0
  · obtain ⟨hr, j, rfl, hj⟩ := errF_at hb he
    have hc := fun K => f28 b f hr j hj K
    simp only [eBase] at hc
    have hv : keyV b f (j : Int) = _ := if_pos he
    rw [Int.toNat_natCast] at hv
    rw [hv, he]
    rw [he] at h26
    simp only [c11, eBase, h26, hc, evX, Int.reduceEq, Int.reduceLT, Int.reduceLE, Nat.reduceMul, Nat.reduceMod, evW, fn_eq, evR, Nat.reduceAdd, Nat.reduceLT, Nat.reduceLeDiff, reduceIte, Nat.reduceEqDiff, reduceCtorEq, argEnv, eq_self, if_true, if_false]
    exact frz_two (ids := []) rfl rfl (by simp) (by simp) _ _
  · have hv : keyV b f i = [] := if_neg he
    rw [hv]
    simp only [c11, eBase, h26, he, evX, Int.reduceEq, Int.reduceLT, Int.reduceLE, Nat.reduceMul, Nat.reduceMod, evW, fn_eq, evR, Nat.reduceAdd, Nat.reduceLT, Nat.reduceLeDiff, reduceIte, Nat.reduceEqDiff, reduceCtorEq, argEnv, eq_self, if_true, if_false]
    exact frz_two (fz_nils _) rfl (by simp) (by simp) _ _
theorem f22 (b : Base) (hb : b.Ok) (f : List Item) (hfl : f.length < 9223372036854775807) (i : Int) (H : Heap) : cal (evC cprog) true 22 [eBase b, eItems f, .int .i64 i] H = some (.tup [eU (keyV b f i), .int .i64 (errF b f [i])], H) := by
  rw [cal_of at22]
  have h26 := f10 b hb f hfl (.ref (H.length + 1) 0 1 0 1) [i] (by simp) (H ++ [bBase b, bI i]) (one_slat H i [bBase b])
  simp only [eBase, bBase, bI] at h26
  by_cases he : errF b f [i] = 0
  · obtain ⟨hr, j, rfl, hj⟩ := errF_at hb he
    have hc := fun K => f30 b f hr j hj K
    simp only [eBase] at hc
    have hv : keyV b f (j : Int) = _ := if_pos he
    rw [Int.toNat_natCast] at hv
    rw [hv, he]
    rw [he] at h26
    simp only [c22, eBase, h26, hc, evX, Int.reduceEq, Int.reduceLT, Int.reduceLE, Nat.reduceMul, Nat.reduceMod, evW, fn_eq, evR, Nat.reduceAdd, Nat.reduceLT, Nat.reduceLeDiff, reduceIte, Nat.reduceEqDiff, reduceCtorEq, argEnv, eq_self, if_true, if_false]
    exact frz_two (ids := []) rfl rfl (by simp) (by simp) _ _
  · have hv : keyV b f i = [] := if_neg he
    rw [hv]
    simp only [c22, eBase, h26, he, evX, Int.reduceEq, Int.reduceLT, Int.reduceLE, Nat.reduceMul, Nat.reduceMod, evW, fn_eq, evR, Nat.reduceAdd, Nat.reduceLT, Nat.reduceLeDiff, reduceIte, Nat.reduceEqDiff, reduceCtorEq, argEnv, eq_self, if_true, if_false]
    exact frz_two (fz_nils _) rfl (by simp) (by simp) _ _
end Go.Proofs.YtcbmakanokmdjaaDoor.Code

/- plain: children as a slice that may be written; Children of the program. -/
set_option linter.unusedSimpArgs false
set_option linter.unusedVariables false
namespace Go.Proofs.YtcbmakanokmdjaaDoor.Code
open Go.Proofs.YtcbmakanokmdjaaDoor.Ev

set_option maxHeartbeats 4000000 in
theorem e40 (b : Base) (f : List Item) (hr : Right b f) (p : Int) (hp : -1 ≤ p) (hpl : p < (f.length : Int)) (H : Heap) :
    ∃ X rv, evFn (evC cprog) itLim c40 [eBase b, eItems f, .int .i64 p] H = some (rv, H ++ (bBase b :: X)) ∧ Out (H.length + 1) 1 3 X rv ((nI (chl b f p)).map rI) := by
  have hfl := hr.len
  have hlen := (sItems [] f).len
  simp only [List.length_map] at hlen
  obtain ⟨K, hK⟩ : ∃ K : Heap, K = H ++ [bBase b] := ⟨_, rfl⟩
  have kl : K.length = H.length + 1 := by rw [hK]; simp
  have kb : ∀ Z, (K ++ Z)[H.length]? = some (bBase b) := fun Z => by rw [hK]; simp
  obtain ⟨s, hs⟩ : ∃ s : Nat, (s : Int) = p + 1 := ⟨(p + 1).toNat, by omega⟩
  obtain ⟨k1, k2, k3, k4⟩ := kid_first hr hp hpl hs
  have L := fun (st : St) (hE : keepEnv st.1 [1, 3, 8, 9, 10] = [(1, eItems f), (3, .ptr H.length 0 4 0 0), (8, .int .i64 ((kidEnd b f p : Nat) : Int)), (9, .nils), (10, .int .i64 (s : Int))]) (hH : st.2 = K) (z : Option (CX × St)) (hz : itLim (evCode (evC cprog) itLim c40_l0) st = z) =>
    loop_rule (σ := Nat × Heap × AV) (m := [1, 3, 8, 9, 10]) (env := fun x => [(1, eItems f), (3, .ptr H.length 0 4 0 0), (8, .int .i64 ((kidEnd b f p : Nat) : Int)), (9, x.2.2), (10, .int .i64 (x.1 : Int))]) (hp := fun x => K ++ x.2.1)
    (P := fun _ r => ∃ T X rv, r = (.exit 0, T, K ++ X) ∧ keepEnv T [9] = [(9, rv)] ∧ Out K.length 1 3 X rv ((nI (chl b f p)).map rI))
    (mu := fun x => kidEnd b f p - x.1) (I := fun x => x.1 ≤ kidEnd b f p ∧ (x.1 < kidEnd b f p → par b.types f x.1 = p) ∧ Out K.length 1 3 x.2.1 x.2.2 ((nI (chTo b f p x.1)).map rI)) (evCode (evC cprog) itLim c40_l0) (by
      intro ⟨k, X, rv⟩ ⟨hk, hkp, hO⟩ E hE
      simp only at hk hkp hO hE ⊢
      by_cases hlt : k < kidEnd b f p
      · have hkl : k < f.length := by omega
        obtain ⟨s1, s2, s3, s4⟩ := kid_step hr hp hpl hlt (hkp hlt)
        have hii : (k : Int) < ((kidEnd b f p : Nat) : Int) := by omega
        have h35 := fun H => f35 b f hr k hkl H
        have hcl := chTo_len b f p k
        obtain ⟨rv1, X1, a1, t1, O1⟩ := out_num hO (by simp [nI]; omega) (k : Int)
        rw [show nI (chTo b f p k) ++ [(k : Int)] = nI (chTo b f p (endOf b.types f k)) by rw [s4, nI_app]; rfl] at O1
        simp only [bBase] at kb
        simp only [eBase] at h35
        generalize kidEnd b f p = e at *
        simp only [c40_l0, hE, hii, kb, a1, t1, h35, evX, Int.reduceEq, Int.reduceLT, Int.reduceLE, Nat.reduceMul, Nat.reduceMod, evW, fn_eq, evR, Nat.reduceAdd, Nat.reduceLT, Nat.reduceLeDiff, reduceIte, Nat.reduceEqDiff, reduceCtorEq, argEnv, eq_self, if_true, if_false]
        exact q_next (endOf b.types f k, X1, rv1) (by rfl) rfl ⟨s2, s3, O1⟩ (by simp only; omega) fun r h => h
      · have hii : ¬ (k : Int) < ((kidEnd b f p : Nat) : Int) := by omega
        have hke : k = kidEnd b f p := by omega
        rw [hke, ← kid_last hr hp hpl] at hO
        simp only [c40_l0, hE, hii, evX, Int.reduceEq, Int.reduceLT, Int.reduceLE, Nat.reduceMul, Nat.reduceMod, evW, fn_eq, evR, Nat.reduceAdd, Nat.reduceLT, Nat.reduceLeDiff, reduceIte, Nat.reduceEqDiff, reduceCtorEq, argEnv, eq_self, if_true, if_false]
        exact q_exit ⟨_, X, rv, rfl, by rfl, hO⟩) (s, [], .nils) st ⟨k2, k3, by rw [k1]; exact .nils ..⟩ hE (by simpa using hH) z hz
  have fin : ∀ X : Heap, K ++ X = H ++ (bBase b :: X) := fun X => by rw [hK]; simp
  by_cases h0 : (0 : Int) ≤ p
  · obtain ⟨q, rfl⟩ : ∃ q : Nat, p = (q : Int) := ⟨p.toNat, by omega⟩
    have h35 := fun H => f35 b f hr q (by omega) H
    have hke : kidEnd b f (q : Int) = endOf b.types f q := by unfold kidEnd; rw [if_neg (by omega)]; rfl
    rw [hke] at L
    have hw : IntKind.i64.wrap ((q : Int) + 1) = (s : Int) := by rw [wrap_i64 (by omega) (by omega)]; omega
    simp only [bBase] at kb hK
    simp only [eBase] at h35
    simp only [c40, eBase, hlen, h0, hw, h35, evX, Int.reduceEq, Int.reduceLT, Int.reduceLE, Nat.reduceMul, Nat.reduceMod, evW, fn_eq, evR, Nat.reduceAdd, Nat.reduceLT, Nat.reduceLeDiff, reduceIte, Nat.reduceEqDiff, reduceCtorEq, argEnv, eq_self, if_true, if_false]
    generalize hz : itLim _ _ = z
    obtain ⟨_, rfl, T, X, rv, rfl, hT, hO⟩ := L _ (by rfl) (by rw [hK]) z hz
    clear hz L
    refine ⟨X, rv, ?_, by rw [← kl]; exact hO⟩
    have hsc := out_tup hO
    rw [← fin X]
    generalize K ++ X = Z at *
    simp only [hT, hsc, evX, Int.reduceEq, Int.reduceLT, Int.reduceLE, Nat.reduceMul, Nat.reduceMod, evW, fn_eq, evR, Nat.reduceAdd, Nat.reduceLT, Nat.reduceLeDiff, reduceIte, Nat.reduceEqDiff, reduceCtorEq, argEnv, eq_self, if_true, if_false]
  · have hke : kidEnd b f p = f.length := by unfold kidEnd; rw [if_pos (by omega)]
    have hs0 : s = 0 := by omega
    subst hs0
    rw [hke] at L
    simp only [bBase] at kb hK
    simp only [c40, eBase, hlen, h0, evX, Int.reduceEq, Int.reduceLT, Int.reduceLE, Nat.reduceMul, Nat.reduceMod, evW, fn_eq, evR, Nat.reduceAdd, Nat.reduceLT, Nat.reduceLeDiff, reduceIte, Nat.reduceEqDiff, reduceCtorEq, argEnv, eq_self, if_true, if_false]
    generalize hz : itLim _ _ = z
    obtain ⟨_, rfl, T, X, rv, rfl, hT, hO⟩ := L _ (by rfl) (by rw [hK]) z hz
    clear hz L
    refine ⟨X, rv, ?_, by rw [← kl]; exact hO⟩
    have hsc := out_tup hO
    rw [← fin X]
    generalize K ++ X = Z at *
    simp only [hT, hsc, evX, Int.reduceEq, Int.reduceLT, Int.reduceLE, Nat.reduceMul, Nat.reduceMod, evW, fn_eq, evR, Nat.reduceAdd, Nat.reduceLT, Nat.reduceLeDiff, reduceIte, Nat.reduceEqDiff, reduceCtorEq, argEnv, eq_self, if_true, if_false]
end Go.Proofs.YtcbmakanokmdjaaDoor.Code

/- plain: Children and Roots, of the program. -/
set_option linter.unusedSimpArgs false
set_option linter.unusedVariables false
namespace Go.Proofs.YtcbmakanokmdjaaDoor.Code
open Go.Proofs.YtcbmakanokmdjaaDoor.Ev

theorem f41 (f : List Item) (t : Int) (k : Nat) (x : Item) (hx : f[k]? = some x) (b1 b2 : Nat) (Z : Heap) (g1 : Z[b1]? = some (bItems f)) (g2 : Z[b2]? = some (bI t)) : cal (evC cprog) false 41 [.int .i64 (k : Int), .ptr b1 0 1 0 0, .ptr b2 0 1 0 0] Z = some (.bool (!decide (x.type = t)), Z) := by
  rw [cal_of at41]
  have ha := aItem hx
  simp only [bItems, bI] at g1 g2
  simp only [c41, g1, g2, ha, rItem, evX, Int.reduceEq, Int.reduceLT, Int.reduceLE, Nat.reduceMul, Nat.reduceMod, evW, fn_eq, evR, Nat.reduceAdd, Nat.reduceLT, Nat.reduceLeDiff, reduceIte, Nat.reduceEqDiff, reduceCtorEq, argEnv, eq_self, if_true, if_false]
theorem f39n (H : Heap) (a : AV) (ha : a = .nils ∨ a = .nil0) (g : Nat) (caps : List AV) : cal (evC cprog) false 39 [a, .fn g caps] H = some (a, H) := by
  have h59 := indexFunc_ok (sz := 1) (ag := false) at59 rI (fun x => .int .i64 x) lI g caps (fun _ => false) H a ([] : List Int) (by
    rcases ha with rfl | rfl
    · exact out_slat (.nils 0 1 3 H) [] rfl (by simp)
    · exact out_slat (n := 0) (ty := 3) (X := H) (.inl ⟨rfl, .inr rfl⟩) [] rfl (by simp)) (by simp) (by simp)
  have hi : idxOf (fun _ : Int => false) [] = -1 := rfl
  rw [hi] at h59
  rw [cal_of at39]
  rcases ha with rfl | rfl
  · simp only [c39, h59, evX, Int.reduceEq, Int.reduceLT, Int.reduceLE, Nat.reduceMul, Nat.reduceMod, evW, fn_eq, evR, Nat.reduceAdd, Nat.reduceLT, Nat.reduceLeDiff, reduceIte, Nat.reduceEqDiff, reduceCtorEq, argEnv, eq_self, if_true, if_false]
  · simp only [c39, h59, evX, Int.reduceEq, Int.reduceLT, Int.reduceLE, Nat.reduceMul, Nat.reduceMod, evW, fn_eq, evR, Nat.reduceAdd, Nat.reduceLT, Nat.reduceLeDiff, reduceIte, Nat.reduceEqDiff, reduceCtorEq, argEnv, eq_self, if_true, if_false]
/-- a type that is one of children -/
def kidT (b : Base) (f : List Item) (i t : Int) : Bool := decide (0 ≤ t) && decide (t < (b.types.length : Int)) && decide (tpar b.types t = typ f i)
noncomputable def kidE (b : Base) (f : List Item) (i t : Int) : Int := if errF b f [i] = 0 then (if kidT b f i t = true then 0 else 2) else errF b f [i]
def kidsL (b : Base) (f : List Item) (i t : Int) : List Int := (nI (chl b f i)).filter fun k => !(!decide (typ f k = t))
noncomputable def kidV (b : Base) (f : List Item) (i t : Int) : List Int := if kidE b f i t = 0 then kidsL b f i t else []
theorem chl_mem {b : Base} {f : List Item} {p : Int} {k : Int} (h : k ∈ nI (chl b f p)) : ∃ (j : Nat) (x : Item), k = (j : Int) ∧ f[j]? = some x := by
  obtain ⟨j, hj, rfl⟩ := List.mem_map.1 h
  have := (mem_chTo.1 hj).1
  exact ⟨j, _, rfl, List.getElem?_eq_getElem this⟩
set_option maxHeartbeats 8000000 in
theorem f18 (b : Base) (hb : b.Ok) (f : List Item) (hfl : f.length < 9223372036854775807) (i t : Int) (H : Heap) : cal (evC cprog) true 18 [eBase b, eItems f, .int .i64 i, .int .i64 t] H = some (.tup [eIs (kidV b f i t), .int .i64 (kidE b f i t)], H) := by
  rw [cal_of at18]
  obtain ⟨K, hK⟩ : ∃ K : Heap, K = H ++ [bBase b, bItems f, bI t, bI i] := ⟨_, rfl⟩
  have h26 := f26 b hb f (.ref (H.length + 3) 0 1 0 1) rfl [i] (by simp) (H ++ [bBase b, bItems f, bI t, bI i]) (one_slat H i [bBase b, bItems f, bI t])
  simp only [eBase, bBase, bI, bItems] at h26
  have hlt := (sTys [] b.types).len
  simp only [List.length_map] at hlt
  by_cases he : errF b f [i] = 0
  case neg =>
    have e1 : kidE b f i t = errF b f [i] := if_neg he
    have e2 : kidV b f i t = [] := if_neg (by rw [e1]; exact he)
    rw [e1, e2]
    simp only [c18, eBase, cells_eItems, isTup_eItems, h26, he, evX, Int.reduceEq, Int.reduceLT, Int.reduceLE, Nat.reduceMul, Nat.reduceMod, evW, fn_eq, evR, Nat.reduceAdd, Nat.reduceLT, Nat.reduceLeDiff, reduceIte, Nat.reduceEqDiff, reduceCtorEq, argEnv, eq_self, if_true, if_false]
    exact frz_two (fz_nils _) rfl (by simp) (by simp) _ _
  obtain ⟨hr, j, rfl, hj⟩ := errF_at hb he
  obtain ⟨x, k, ty, hx, hk, hkl, hty, _⟩ := hr.item hj
  have hax := aItem hx
  rw [he] at h26
  have no : kidT b f (j : Int) t = false → kidE b f (j : Int) t = 2 ∧ kidV b f (j : Int) t = [] := fun h => by
    have e1 : kidE b f (j : Int) t = 2 := by unfold kidE; rw [if_pos he, if_neg (by rw [h]; simp)]
    exact ⟨e1, if_neg (by rw [e1]; simp)⟩
  by_cases t0 : t < 0
  · obtain ⟨e1, e2⟩ := no (by simp [kidT]; omega)
    rw [e1, e2]
    simp only [c18, eBase, cells_eItems, isTup_eItems, h26, t0, evX, Int.reduceEq, Int.reduceLT, Int.reduceLE, Nat.reduceMul, Nat.reduceMod, evW, fn_eq, evR, Nat.reduceAdd, Nat.reduceLT, Nat.reduceLeDiff, reduceIte, Nat.reduceEqDiff, reduceCtorEq, argEnv, eq_self, if_true, if_false]
    all_goals exact frz_two (fz_nils _) rfl (by simp) (by simp) _ _
  by_cases t1 : (b.types.length : Int) ≤ t
  · obtain ⟨e1, e2⟩ := no (by simp [kidT]; omega)
    rw [e1, e2]
    simp only [c18, eBase, cells_eItems, isTup_eItems, h26, t0, t1, hlt, evX, Int.reduceEq, Int.reduceLT, Int.reduceLE, Nat.reduceMul, Nat.reduceMod, evW, fn_eq, evR, Nat.reduceAdd, Nat.reduceLT, Nat.reduceLeDiff, reduceIte, Nat.reduceEqDiff, reduceCtorEq, argEnv, eq_self, if_true, if_false]
    all_goals exact frz_two (fz_nils _) rfl (by simp) (by simp) _ _
  obtain ⟨m, rfl⟩ : ∃ m : Nat, t = (m : Int) := ⟨t.toNat, by omega⟩
  obtain ⟨u, hu⟩ : ∃ u, b.types[m]? = some u := ⟨_, List.getElem?_eq_getElem (by omega)⟩
  have hau := aTy hu
  have htp : tpar b.types (m : Int) = u.parent := tpar_at hu
  by_cases t2 : u.parent = x.type
  case neg =>
    obtain ⟨e1, e2⟩ := no (by simp [kidT, htp, typ_at hx, t2])
    rw [e1, e2]
    simp only [c18, eBase, cells_eItems, isTup_eItems, h26, t0, t1, hlt, hau, hax, rTy, rItem, t2, evX, Int.reduceEq, Int.reduceLT, Int.reduceLE, Nat.reduceMul, Nat.reduceMod, evW, fn_eq, evR, Nat.reduceAdd, Nat.reduceLT, Nat.reduceLeDiff, reduceIte, Nat.reduceEqDiff, reduceCtorEq, argEnv, eq_self, if_true, if_false]
    all_goals exact frz_two (fz_nils _) rfl (by simp) (by simp) _ _
  have e1 : kidE b f (j : Int) (m : Int) = 0 := by
    unfold kidE; rw [if_pos he, if_pos (by simp [kidT, htp, typ_at hx, t2]; omega)]
  have e2 : kidV b f (j : Int) (m : Int) = kidsL b f (j : Int) (m : Int) := if_pos e1
  rw [e1, e2]
  obtain ⟨X, rv, h40, hO⟩ := e40 b f hr (j : Int) (by omega) (by omega) K
  have hcl := chTo_len b f (j : Int) f.length
  have hfr := hr.len
  rcases hO with ⟨hnil, hrv⟩ | ⟨hne, q, v, rfl, hq⟩
  · -- no children
    have hn : nI (chl b f (j : Int)) = [] := by simpa using hnil
    have hL : kidsL b f (j : Int) (m : Int) = [] := by unfold kidsL; rw [hn]; rfl
    rw [hL]
    have hcal : cal (evC cprog) false 40 [eBase b, eItems f, .int .i64 (j : Int)] K = some (rv, K) := by
      rw [cal_of at40, h40]
      have : noRef rv = true := by rcases hrv with rfl | rfl <;> rfl
      simp only [calK, Bool.false_eq_true, if_false, gc, this, true_and]
      rw [if_pos (by rw [List.take_left' rfl]; exact heq_refl _)]
    have h39 := f39n K rv hrv 41 [.ptr (H.length + 1) 0 1 0 0, .ptr (H.length + 2) 0 1 0 0]
    simp only [hK, eBase, bBase, bItems, bI] at hcal h39
    have htu : rv.isTup = false := by rcases hrv with rfl | rfl <;> rfl
    simp only [c18, eBase, cells_eItems, isTup_eItems, h26, t0, t1, hlt, hau, hax, rTy, rItem, t2, hcal, h39, htu, scal_ptr, evX, Int.reduceEq, Int.reduceLT, Int.reduceLE, Nat.reduceMul, Nat.reduceMod, evW, fn_eq, evR, Nat.reduceAdd, Nat.reduceLT, Nat.reduceLeDiff, reduceIte, Nat.reduceEqDiff, reduceCtorEq, argEnv, eq_self, if_true, if_false]
    rcases hrv with rfl | rfl
    · exact frz_two (fz_nils _) rfl (by simp) (by simp) _ _
    · exact frz_two (ids := []) rfl rfl (by simp) (by simp) _ _
  · have hlen1 : ((nI (chl b f (j : Int))).map rI).length = (nI (chl b f (j : Int))).length := List.length_map ..
    have hnb : (nI (chl b f (j : Int))).length ≤ 200 := by simp only [nI, List.length_map]; unfold chl; omega
    have hpos : 0 < (nI (chl b f (j : Int))).length := by
      rcases Nat.eq_zero_or_pos (nI (chl b f (j : Int))).length with h | h
      · exact absurd (by rw [List.eq_nil_of_length_eq_zero h]; rfl) hne
      · exact h
    rw [hlen1] at h40
    obtain ⟨Y, hY⟩ : ∃ Y, Y = K ++ (bBase b :: X) := ⟨_, rfl⟩
    rw [← hY] at h40
    have hcal : cal (evC cprog) false 40 [eBase b, eItems f, .int .i64 (j : Int)] K = some (.ref (K.length + 1 + q) v 1 0 (nI (chl b f (j : Int))).length, Y) := by
      rw [cal_of at40, h40]
      simp only [calK, Bool.false_eq_true, if_false]
      rw [gc_no _ _ _ rfl]
    have hblk : Y[K.length + 1 + q]? = some ⟨v, true, 3, 1, (nI (chl b f (j : Int))).map rI⟩ := by
      rw [hY, List.getElem?_append_right (by omega), show K.length + 1 + q - K.length = q + 1 by omega, List.getElem?_cons_succ, hq]
    have hkl : K.length = H.length + 4 := by rw [hK]; simp
    have y1 : Y[H.length + 1]? = some (bItems f) := by rw [hY, hK]; simp
    have y2 : Y[H.length + 2]? = some (bI (m : Int)) := by rw [hY, hK]; simp
    have yt : Y.take H.length = H := by rw [hY, hK]; simp
    obtain ⟨els, h39, hels, hll⟩ := f39 Y (K.length + 1 + q) v (nI (chl b f (j : Int))).length (nI (chl b f (j : Int))) hblk rfl hpos (by omega) 41 [.ptr (H.length + 1) 0 1 0 0, .ptr (H.length + 2) 0 1 0 0] (fun k => !decide (typ f k = (m : Int))) (fun k hk els => by
      obtain ⟨j', x', rfl, hx'⟩ := chl_mem hk
      rw [typ_at hx']
      exact f41 f (m : Int) j' x' hx' (H.length + 1) (H.length + 2) _ (by rw [List.getElem?_set_ne (by omega)]; exact y1) (by rw [List.getElem?_set_ne (by omega)]; exact y2))
    obtain ⟨Z, hZ⟩ : ∃ Z, Z = Y.set (K.length + 1 + q) ⟨v, true, 3, 1, els⟩ := ⟨_, rfl⟩
    rw [← hZ] at h39
    have zb : Z[K.length + 1 + q]? = some ⟨v, true, 3, 1, els⟩ := by rw [hZ, List.getElem?_set_self (List.getElem?_eq_some_iff.1 hblk).1]
    have zt : Z.take H.length = H := by rw [hZ, List.take_set_of_le (by omega)]; exact yt
    clear hZ hY
    obtain ⟨ids, g1, g2⟩ := fz_blk (H := Z) (b := K.length + 1 + q) (v := v) (sz := 1) (len := ((nI (chl b f (j : Int))).filter fun k => !(!decide (typ f k = (m : Int)))).length) (k := ⟨v, true, 3, 1, els⟩) (by simp [curBlk, zb]) hels (plain_ints _) 6
    generalize hbn : K.length + 1 + q = bn at *
    have hbn2 : H.length ≤ bn := by omega
    simp only [hK, eBase, bBase, bItems, bI] at hcal
    simp only [c18, eBase, cells_eItems, isTup_eItems, h26, t0, t1, hlt, hau, hax, rTy, rItem, t2, hcal, h39, scal_ptr, evX, Int.reduceEq, Int.reduceLT, Int.reduceLE, Nat.reduceMul, Nat.reduceMod, evW, fn_eq, evR, Nat.reduceAdd, Nat.reduceLT, Nat.reduceLeDiff, reduceIte, Nat.reduceEqDiff, reduceCtorEq, argEnv, eq_self, if_true, if_false]
    exact frz_two (ids := ids) g1 rfl zt (fun z hz => by have := g2 z hz; omega) _ _
end Go.Proofs.YtcbmakanokmdjaaDoor.Code

/- plain: the document's Children; Roots of both; lists of numbers that are the same. -/
set_option linter.unusedSimpArgs false
set_option linter.unusedVariables false
namespace Go.Proofs.YtcbmakanokmdjaaDoor.Code
open Go.Proofs.YtcbmakanokmdjaaDoor.Ev

theorem kids_tw (b : Base) (f : List Item) (i t : Int) : kidsL b f i t = nI (twT b f i t f.length) := by
  unfold kidsL chl chTo twT nI
  rw [List.filter_map, List.filter_filter]
  congr 1
  apply List.filter_congr
  intro k _
  simp [Function.comp]
theorem roots_tw {b : Base} {f : List Item} (hr : Right b f) : chl b f (-1) = twT b f (-1) 0 f.length := by
  unfold chl chTo twT
  apply List.filter_congr
  intro k hk
  have hk := List.mem_range.1 hk
  by_cases hp : par b.types f k = -1
  · obtain ⟨x, c, t, hx, hc, _, ht, _⟩ := hr.item hk
    rcases hr.par hx hc ht with ⟨_, _, h0⟩ | ⟨p, h1, _⟩
    · subst h0
      simp [hp, typ_at hx, hc]
    · omega
  · simp [hp]
set_option maxHeartbeats 4000000 in
theorem f19 (b : Base) (hb : b.Ok) (f : List Item) (hfl : f.length < 9223372036854775807) (i t : Int) (H : Heap) : cal (evC cprog) true 19 [eBase b, eItems f, .int .i64 i, .int .i64 t] H = some (.tup [eIs (kidV b f i t), .int .i64 (kidE b f i t)], H) := by
  rw [cal_of at19]
  have h26 := f10 b hb f hfl (.ref (H.length + 1) 0 1 0 1) [i] (by simp) (H ++ [bBase b, bI i]) (one_slat H i [bBase b])
  simp only [eBase, bBase, bI] at h26
  have hlt := (sTys [] b.types).len
  simp only [List.length_map] at hlt
  by_cases he : errF b f [i] = 0
  case neg =>
    have e1 : kidE b f i t = errF b f [i] := if_neg he
    have e2 : kidV b f i t = [] := if_neg (by rw [e1]; exact he)
    rw [e1, e2]
    simp only [c19, eBase, h26, he, evX, Int.reduceEq, Int.reduceLT, Int.reduceLE, Nat.reduceMul, Nat.reduceMod, evW, fn_eq, evR, Nat.reduceAdd, Nat.reduceLT, Nat.reduceLeDiff, reduceIte, Nat.reduceEqDiff, reduceCtorEq, argEnv, eq_self, if_true, if_false]
    exact frz_two (fz_nils _) rfl (by simp) (by simp) _ _
  obtain ⟨hr, j, rfl, hj⟩ := errF_at hb he
  obtain ⟨x, k, ty, hx, hk, hkl, hty, _⟩ := hr.item hj
  have hax := aItem hx
  rw [he] at h26
  have no : kidT b f (j : Int) t = false → kidE b f (j : Int) t = 2 ∧ kidV b f (j : Int) t = [] := fun h => by
    have e1 : kidE b f (j : Int) t = 2 := by unfold kidE; rw [if_pos he, if_neg (by rw [h]; simp)]
    exact ⟨e1, if_neg (by rw [e1]; simp)⟩
  by_cases t0 : t < 0
  · obtain ⟨e1, e2⟩ := no (by simp [kidT]; omega)
    rw [e1, e2]
    simp only [c19, eBase, h26, t0, evX, Int.reduceEq, Int.reduceLT, Int.reduceLE, Nat.reduceMul, Nat.reduceMod, evW, fn_eq, evR, Nat.reduceAdd, Nat.reduceLT, Nat.reduceLeDiff, reduceIte, Nat.reduceEqDiff, reduceCtorEq, argEnv, eq_self, if_true, if_false]
    all_goals exact frz_two (fz_nils _) rfl (by simp) (by simp) _ _
  by_cases t1 : (b.types.length : Int) ≤ t
  · obtain ⟨e1, e2⟩ := no (by simp [kidT]; omega)
    rw [e1, e2]
    simp only [c19, eBase, h26, t0, t1, hlt, evX, Int.reduceEq, Int.reduceLT, Int.reduceLE, Nat.reduceMul, Nat.reduceMod, evW, fn_eq, evR, Nat.reduceAdd, Nat.reduceLT, Nat.reduceLeDiff, reduceIte, Nat.reduceEqDiff, reduceCtorEq, argEnv, eq_self, if_true, if_false]
    all_goals exact frz_two (fz_nils _) rfl (by simp) (by simp) _ _
  obtain ⟨m, rfl⟩ : ∃ m : Nat, t = (m : Int) := ⟨t.toNat, by omega⟩
  obtain ⟨u, hu⟩ : ∃ u, b.types[m]? = some u := ⟨_, List.getElem?_eq_getElem (by omega)⟩
  have hau := aTy hu
  have htp : tpar b.types (m : Int) = u.parent := tpar_at hu
  by_cases t2 : u.parent = x.type
  case neg =>
    obtain ⟨e1, e2⟩ := no (by simp [kidT, htp, typ_at hx, t2])
    rw [e1, e2]
    simp only [c19, eBase, h26, t0, t1, hlt, hau, hax, rTy, rItem, t2, evX, Int.reduceEq, Int.reduceLT, Int.reduceLE, Nat.reduceMul, Nat.reduceMod, evW, fn_eq, evR, Nat.reduceAdd, Nat.reduceLT, Nat.reduceLeDiff, reduceIte, Nat.reduceEqDiff, reduceCtorEq, argEnv, eq_self, if_true, if_false]
    all_goals exact frz_two (fz_nils _) rfl (by simp) (by simp) _ _
  have e1 : kidE b f (j : Int) (m : Int) = 0 := by
    unfold kidE; rw [if_pos he, if_pos (by simp [kidT, htp, typ_at hx, t2]; omega)]
  have e2 : kidV b f (j : Int) (m : Int) = kidsL b f (j : Int) (m : Int) := if_pos e1
  rw [e1, e2, kids_tw]
  have h42 := f42 b f hr (j : Int) (m : Int)
  simp only [eBase] at h42
  simp only [c19, eBase, h26, t0, t1, hlt, hau, hax, rTy, rItem, t2, h42, evX, Int.reduceEq, Int.reduceLT, Int.reduceLE, Nat.reduceMul, Nat.reduceMod, evW, fn_eq, evR, Nat.reduceAdd, Nat.reduceLT, Nat.reduceLeDiff, reduceIte, Nat.reduceEqDiff, reduceCtorEq, argEnv, eq_self, if_true, if_false]
  exact frz_two (ids := []) rfl rfl (by simp) (by simp) _ _
noncomputable def rtV (b : Base) (f : List Item) : List Int := if errF b f [] = 0 then nI (chl b f (-1)) else []
theorem f20 (b : Base) (hb : b.Ok) (f : List Item) (hfl : f.length < 9223372036854775807) (H : Heap) : cal (evC cprog) true 20 [eBase b, eItems f] H = some (.tup [eIs (rtV b f), .int .i64 (errF b f [])], H) := by
  rw [cal_of at20]
  have h26 := fun K => f26 b hb f .nils rfl [] (by simp) K (nil_slat K)
  simp only [eBase] at h26
  by_cases he : errF b f [] = 0
  · have hr := (errF_zero hb he).1
    have h40 := f40 b f hr (-1) (by omega) (by omega)
    have hv : rtV b f = _ := if_pos he
    rw [hv, he]
    rw [he] at h26
    simp only [eBase] at h40
    simp only [c20, eBase, h26, h40, evX, Int.reduceEq, Int.reduceLT, Int.reduceLE, Nat.reduceMul, Nat.reduceMod, evW, fn_eq, evR, Nat.reduceAdd, Nat.reduceLT, Nat.reduceLeDiff, reduceIte, Nat.reduceEqDiff, reduceCtorEq, argEnv, eq_self, if_true, if_false]
    exact frz_two (ids := []) rfl rfl (by simp) (by simp) _ _
  · have hv : rtV b f = [] := if_neg he
    rw [hv]
    simp only [c20, eBase, h26, he, evX, Int.reduceEq, Int.reduceLT, Int.reduceLE, Nat.reduceMul, Nat.reduceMod, evW, fn_eq, evR, Nat.reduceAdd, Nat.reduceLT, Nat.reduceLeDiff, reduceIte, Nat.reduceEqDiff, reduceCtorEq, argEnv, eq_self, if_true, if_false]
    exact frz_two (fz_nils _) rfl (by simp) (by simp) _ _
theorem f21 (b : Base) (hb : b.Ok) (f : List Item) (hfl : f.length < 9223372036854775807) (H : Heap) : cal (evC cprog) true 21 [eBase b, eItems f] H = some (.tup [eIs (rtV b f), .int .i64 (errF b f [])], H) := by
  rw [cal_of at21]
  have h26 := fun K => f10 b hb f hfl .nils [] (by simp) K (nil_slat K)
  simp only [eBase] at h26
  by_cases he : errF b f [] = 0
  · have hr := (errF_zero hb he).1
    have h42 := f42 b f hr (-1) 0
    rw [← roots_tw hr] at h42
    have hv : rtV b f = _ := if_pos he
    rw [hv, he]
    rw [he] at h26
    simp only [eBase] at h42
    simp only [c21, eBase, h26, h42, evX, Int.reduceEq, Int.reduceLT, Int.reduceLE, Nat.reduceMul, Nat.reduceMod, evW, fn_eq, evR, Nat.reduceAdd, Nat.reduceLT, Nat.reduceLeDiff, reduceIte, Nat.reduceEqDiff, reduceCtorEq, argEnv, eq_self, if_true, if_false]
    exact frz_two (ids := []) rfl rfl (by simp) (by simp) _ _
  · have hv : rtV b f = [] := if_neg he
    rw [hv]
    simp only [c21, eBase, h26, he, evX, Int.reduceEq, Int.reduceLT, Int.reduceLE, Nat.reduceMul, Nat.reduceMod, evW, fn_eq, evR, Nat.reduceAdd, Nat.reduceLT, Nat.reduceLeDiff, reduceIte, Nat.reduceEqDiff, reduceCtorEq, argEnv, eq_self, if_true, if_false]
    exact frz_two (fz_nils _) rfl (by simp) (by simp) _ _
theorem f9 (l : List Int) (hl : l.length < 9223372036854775807) (H : Heap) : cal (evC cprog) false 9 [eIs l, eIs l] H = some (.bool true, H) := by
  rw [cal_of at9]
  have hlen := (sIs [] l).len
  simp only [List.length_map] at hlen
  simp only [c9, hlen, evX, Int.reduceEq, Int.reduceLT, Int.reduceLE, Nat.reduceMul, Nat.reduceMod, evW, fn_eq, evR, Nat.reduceAdd, Nat.reduceLT, Nat.reduceLeDiff, reduceIte, Nat.reduceEqDiff, reduceCtorEq, argEnv, eq_self, if_true, if_false]
  generalize hz : itLim _ _ = z
  have L := all_rule l (fun _ => true) [0, 1, 5] (fun i => [(0, eIs l), (1, eIs l), (5, .int .i64 (i : Int))]) H [] (evCode (evC cprog) itLim c9_l0) (fun c T => c = .exit 0) (fun c T => False)
    (fun i x hx E G hE => by
      have hlt : i < l.length := (List.getElem?_eq_some_iff.1 hx).1
      have hi : (i : Int) < (l.length : Int) := by omega
      have ha := aI hx
      have hw := wrapS hlt hl
      simp only [c9_l0, hE, hi, hlen, ha, rI, hw, evX, Int.reduceEq, Int.reduceLT, Int.reduceLE, Nat.reduceMul, Nat.reduceMod, evW, fn_eq, evR, Nat.reduceAdd, Nat.reduceLT, Nat.reduceLeDiff, reduceIte, Nat.reduceEqDiff, reduceCtorEq, argEnv, eq_self, if_true, if_false]
      exact Sc.next rfl (by rfl))
    (fun E G hE => by
      simp only [c9_l0, hE, hlen, Int.lt_irrefl, evX, Int.reduceEq, Int.reduceLT, Int.reduceLE, Nat.reduceMul, Nat.reduceMod, evW, fn_eq, evR, Nat.reduceAdd, Nat.reduceLT, Nat.reduceLeDiff, reduceIte, Nat.reduceEqDiff, reduceCtorEq, argEnv, eq_self, if_true, if_false]
      exact .exit (K := []) rfl) _ [] (by rfl) (by simp) z hz
  rcases L with ⟨_, c, T, G, rfl, _, rfl⟩ | ⟨_, c, T, G, rfl, _, hf⟩
  · simp only [evX, Int.reduceEq, Int.reduceLT, Int.reduceLE, Nat.reduceMul, Nat.reduceMod, evW, fn_eq, evR, Nat.reduceAdd, Nat.reduceLT, Nat.reduceLeDiff, reduceIte, Nat.reduceEqDiff, reduceCtorEq, argEnv, eq_self, if_true, if_false]
  · exact hf.elim
end Go.Proofs.YtcbmakanokmdjaaDoor.Code

/- plain: all functions are held, by the kernel's look or by a proof of their own. -/
set_option linter.unusedSimpArgs false
set_option linter.unusedVariables false
namespace Go.Proofs.YtcbmakanokmdjaaDoor.Code
open Go.Proofs.YtcbmakanokmdjaaDoor.Ev

theorem cprog_sound {f : Nat} {c : CFn} (h : cprog f = some c) : okFn Go.Proofs.Tryd.prog f c = true ∨ UserOk Go.Proofs.Tryd.prog f c := by
  rcases cprog_ok h with h | h
  · exact .inl h
  · simp only [utab, List.mem_cons, Prod.mk.injEq, List.not_mem_nil, or_false] at h
    obtain ⟨rfl, rfl⟩ := h
    exact .inr (userRepl rfl rfl rfl rfl)
end Go.Proofs.YtcbmakanokmdjaaDoor.Code

/- The law PlainWays is true. -/
set_option linter.unusedSimpArgs false
set_option linter.unusedVariables false
namespace Go.Proofs.YtcbmakanokmdjaaDoor.Code
open Go.Proofs.YtcbmakanokmdjaaDoor.Ev

theorem rowBytes_U : ∀ p : List UInt8, rowBytes (p.map rU) = some p
  | [] => rfl
  | n :: p => by simp [rowBytes, rU, rowBytes_U p]
theorem b2s_U (H : Heap) (l : List UInt8) : b2sK H (some (eU l)) = some (.str ⟨l.toArray⟩) := by
  simp only [b2sK, eU, rowsOf, rowBytes_U]; rfl
theorem pthV_len (b : Base) (f : List Item) (i : Int) (hb : b.Ok) : (pthV b f i).length ≤ 1000 := by
  unfold pthV
  split
  · rename_i he
    obtain ⟨hr, j, rfl, hj⟩ := errF_at hb he
    have := fk_len hr hj
    rw [Int.toNat_natCast]; omega
  · simp
theorem kidV_len (b : Base) (f : List Item) (i t : Int) (hf : f.length < 9223372036854775807) : (kidV b f i t).length < 9223372036854775807 := by
  unfold kidV
  split
  · rw [kids_tw]
    have := twT_len b f i t f.length
    simp only [nI, List.length_map]; omega
  · simp
theorem rtV_len (b : Base) (f : List Item) (hf : f.length < 9223372036854775807) : (rtV b f).length < 9223372036854775807 := by
  unfold rtV
  split
  · have := chTo_len b f (-1) f.length
    simp only [nI, List.length_map]; unfold chl; omega
  · simp
set_option maxHeartbeats 8000000 in
theorem f4 (b : Base) (hb : b.Ok) (f : List Item) (hf : f.length < 9223372036854775807) (i t : Int) : ∃ H', evC cprog 4 [eBase b, eItems f, .agg [.int .i64 i, .int .i64 t]] [] = some (.bool true, H') := by
  have h5 := f5 b hb f hf
  have h6 := f6
  have h12 := f12 b hb f hf i
  have h13 := f13 b hb f hf i
  have h14 := f14 b hb f hf i
  have h15 := f15 b hb f hf i
  have h16 := f16 b hb f hf i
  have h17 := f17 b hb f hf i
  have h18 := f18 b hb f hf i t
  have h19 := f19 b hb f hf i t
  have h20 := f20 b hb f hf
  have h21 := f21 b hb f hf
  have h11 := f11 b hb f hf i
  have h22 := f22 b hb f hf i
  have h9a := f9 (pthV b f i) (by have := pthV_len b f i hb; omega)
  have h9b := f9 (kidV b f i t) (kidV_len b f i t hf)
  have h9c := f9 (rtV b f) (rtV_len b f hf)
  simp only [eBase] at h5 h11 h12 h13 h14 h15 h16 h17 h18 h19 h20 h21 h22
  rw [evC_fn at4]
  cases hs : small b f with
  | false =>
    simp only [c4, eBase, h5, h6, hs, evX, Int.reduceEq, Int.reduceLT, Int.reduceLE, Nat.reduceMul, Nat.reduceMod, evW, fn_eq, evR, Nat.reduceAdd, Nat.reduceLT, Nat.reduceLeDiff, reduceIte, Nat.reduceEqDiff, reduceCtorEq, argEnv, eq_self, if_true, if_false]
    all_goals exact ⟨_, rfl⟩
  | true =>
    simp only [c4, eBase, h5, h6, hs, h9a, h9b, h9c, h11, h12, h13, h14, h15, h16, h17, h18, h19, h20, h21, h22, b2s_U, evX, Int.reduceEq, Int.reduceLT, Int.reduceLE, Nat.reduceMul, Nat.reduceMod, evW, fn_eq, evR, Nat.reduceAdd, Nat.reduceLT, Nat.reduceLeDiff, reduceIte, Nat.reduceEqDiff, reduceCtorEq, argEnv, eq_self, if_true, if_false]
    all_goals exact ⟨_, rfl⟩
theorem open_2 {a : AV} (h : ArgTy true [.int .i64, .int .i64] a) : ∃ n m : Int, a = .agg [.int .i64 n, .int .i64 m] := by
  obtain ⟨bs, rfl, h⟩ := h
  simp only [HasL.eq_2, HasL.eq_1, Has] at h
  obtain ⟨_, _, rfl, ⟨n, rfl, _⟩, _, _, rfl, ⟨m, rfl, _⟩, rfl⟩ := h
  exact ⟨n, m, rfl⟩
end Go.Proofs.YtcbmakanokmdjaaDoor.Code
namespace Go.Proofs.YtcbmakanokmdjaaDoor.Pure
open Go.Proofs.YtcbmakanokmdjaaDoor.Ev Go.Proofs.YtcbmakanokmdjaaDoor.Code
theorem PlainWays (a0 : AV) (t0 : ArgTy true [.str, .int .i64, .sl [.str, .int .i64, .int .i64, .int .i64, .sl [.str, .int .i64, .int .i64], .int .i64, .bool, .bool], .sl [.str, .int .i64, .int .i64, .str]] a0) (a1 : AV) (t1 : ArgTy false [.sl [.int .i64, .str]] a1) (a2 : AV) (t2 : ArgTy true [.int .i64, .int .i64] a2) : ∃ H', evC cprog 4 [a0, a1, a2] [] = some (.bool true, H') := by
  obtain ⟨b, rfl, hb⟩ := open_Base t0
  obtain ⟨f, rfl, hf⟩ := open_Items t1
  obtain ⟨i, t, rfl⟩ := open_2 t2
  exact f4 b hb f hf i t
end Go.Proofs.YtcbmakanokmdjaaDoor.Pure

