/- Texts of ours, joined into one file; each begins with its own remark. -/
import Derived.Test.YtbchmbddcdionaaU1
import Derived.Test.YtbchmbddcdionaaEvZ
import Derived.Test.YtbchmbddcdionaaWe
import Derived.Test.YtbchmbddcdionaaEvU
import Derived.Test.YtbchmbddcdionaaWa
import Derived.Test.YtbchmbddcdionaaWbp
import Derived.Test.YtbchmbddcdionaaWbl
import Derived.Test.YtbchmbddcdionaaWbv
import Derived.Test.YtbchmbddcdionaaWcp
import Derived.Test.YtbchmbddcdionaaWcl
import Derived.Test.YtbchmbddcdionaaWcv
import Derived.Test.YtbchmbddcdionaaWdp
import Derived.Test.YtbchmbddcdionaaWdl
import Derived.Test.YtbchmbddcdionaaWdv
import Derived.Test.YtbchmbddcdionaaXa
import Derived.Test.YtbchmbddcdionaaXbp
import Derived.Test.YtbchmbddcdionaaXbl
import Derived.Test.YtbchmbddcdionaaXbv
import Derived.Test.YtbchmbddcdionaaXcp
import Derived.Test.YtbchmbddcdionaaXcl
import Derived.Test.YtbchmbddcdionaaXcv
import Derived.Test.YtbchmbddcdionaaXdp
import Derived.Test.YtbchmbddcdionaaXdl
import Derived.Test.YtbchmbddcdionaaXdv
import Derived.Test.YtbchmbddcdionaaIa
import Derived.Test.YtbchmbddcdionaaInsP
import Derived.KernelRfl
import Derived.Test.YtbchmbddcdionaaCodeB
import Derived.Test.YtbchmbddcdionaaWi
/- plain: what is asked of bases, forests and places; parents, depths and ends. -/
set_option linter.unusedSimpArgs false
set_option linter.unusedVariables false
namespace Go.Proofs.Ytbchmbddcdionaa.Code
open Go.Proofs.Ytbchmbddcdionaa.Ev

def outOf (f : List Item) (i : Int) : Bool := decide (i < 0) || decide ((f.length : Int) ≤ i)
noncomputable def errF (b : Base) (f : List Item) (l : List Int) : Int := if validB b = true then (if forestOk b.types f = true then (if l.any (outOf f) = true then 2 else 0) else 120) else 100
theorem slI {H : Heap} {a : AV} {l : List Int} (h : SlAt H 1 a (l.map rI)) {i : Nat} {n : Int} (hi : l[i]? = some n) : ∃ p, iaddrK 1 (some a) (some (.int .i64 (i : Int))) = some p ∧ ∀ X, loadK false 1 (H ++ X) (some p) = some (.int .i64 n) := by
  obtain ⟨_, p, h1, h2⟩ := h.get i (rI n) (by rw [List.getElem?_map, hi]; rfl)
  exact ⟨p, h1, fun X => h2.onex X⟩
theorem f87 (f : List Item) (i : Int) (b1 : Nat) (H : Heap) (h1 : Sits H b1 (bItems f)) : cal (evC cprog) false 87 [.int .i64 i, .ptr b1 0 1 0 0] H = some (.bool (outOf f i), H) := by
  rw [cal_of at87]
  have hlen := (sItems [] f).len
  simp only [List.length_map] at hlen
  have g1 := h1.at
  simp only [bItems] at g1
  simp only [c87, hlen, g1, evX, Int.reduceEq, Int.reduceLT, Int.reduceLE, Nat.reduceMul, Nat.reduceMod, evW, fn_eq, evR, Nat.reduceAdd, Nat.reduceLT, Nat.reduceLeDiff, reduceIte, Nat.reduceEqDiff, reduceCtorEq, argEnv, eq_self, if_true, if_false]
  repeat' ((first | rw [guardK_cases] | rw [condK_bool] | rw [guardD_cases]); split <;> simp only [c87, hlen, g1, evX, Int.reduceEq, Int.reduceLT, Int.reduceLE, Nat.reduceMul, Nat.reduceMod, evW, evR, Nat.reduceAdd, Nat.reduceLT, Nat.reduceLeDiff, reduceIte, Nat.reduceEqDiff, reduceCtorEq, argEnv, eq_self, if_true, if_false, *])
  all_goals (simp_all [outOf]; try omega)
theorem f61 (b : Base) (hb : b.Ok) (f : List Item) (a : AV) (hat : a.isTup = false) (l : List Int) (hl : l.length < 9223372036854775807) (H : Heap) (ha : SlAt H 1 a (l.map rI)) : cal (evC cprog) false 61 [eBase b, eItems f, a] H = some (.int .i64 (errF b f l), H) := by
  rw [cal_of at61]
  have h1 := f42 b hb
  simp only [eBase] at h1
  cases hv : validB b with
  | false =>
    simp only [c61, eBase, cells_eItems, isTup_eItems, h1, hv, evX, Int.reduceEq, Int.reduceLT, Int.reduceLE, Nat.reduceMul, Nat.reduceMod, evW, fn_eq, evR, Nat.reduceAdd, Nat.reduceLT, Nat.reduceLeDiff, reduceIte, Nat.reduceEqDiff, reduceCtorEq, argEnv, eq_self, if_true, if_false]
    simp [errF, hv]
  | true =>
    have h2 := f85 b (valid_tys hv) f
    simp only [eBase] at h2
    cases hf : forestOk b.types f with
    | false =>
      simp only [c61, eBase, cells_eItems, isTup_eItems, h1, hv, h2, hf, evX, Int.reduceEq, Int.reduceLT, Int.reduceLE, Nat.reduceMul, Nat.reduceMod, evW, fn_eq, evR, Nat.reduceAdd, Nat.reduceLT, Nat.reduceLeDiff, reduceIte, Nat.reduceEqDiff, reduceCtorEq, argEnv, eq_self, if_true, if_false]
      simp [errF, hv, hf]
    | true =>
      have h65 := containsFunc_ok (g := 109) at86 (indexFunc_ok (sz := 1) (ag := false) at109 rI (fun x => .int .i64 x) lI 87 [.ptr (H.length + 1) 0 1 0 0] (outOf f) (H ++ [bBase b, bItems f]) a l (ha.app _) hl fun x _ => f87 f x (H.length + 1) _ (.mk (by simp)))
      simp only [bBase, bItems] at h65
      cases hc : l.any (outOf f) with
      | false =>
        simp only [c61, eBase, cells_eItems, isTup_eItems, h1, hv, h2, hf, h65, hc, scal_ptr, hat, evX, Int.reduceEq, Int.reduceLT, Int.reduceLE, Nat.reduceMul, Nat.reduceMod, evW, fn_eq, evR, Nat.reduceAdd, Nat.reduceLT, Nat.reduceLeDiff, reduceIte, Nat.reduceEqDiff, reduceCtorEq, argEnv, eq_self, if_true, if_false]
        simp [errF, hv, hf, hc]
      | true =>
        simp only [c61, eBase, cells_eItems, isTup_eItems, h1, hv, h2, hf, h65, hc, scal_ptr, hat, evX, Int.reduceEq, Int.reduceLT, Int.reduceLE, Nat.reduceMul, Nat.reduceMod, evW, fn_eq, evR, Nat.reduceAdd, Nat.reduceLT, Nat.reduceLeDiff, reduceIte, Nat.reduceEqDiff, reduceCtorEq, argEnv, eq_self, if_true, if_false]
        simp [errF, hv, hf, hc]
theorem f67 (b : Base) (hb : b.Ok) (f : List Item) (hfl : f.length < 9223372036854775807) (a : AV) (l : List Int) (hl : l.length < 9223372036854775807) (H : Heap) (ha : SlAt H 1 a (l.map rI)) : cal (evC cprog) false 67 [eBase b, eItems f, a] H = some (.int .i64 (errF b f l), H) := by
  rw [cal_of at67]
  have h1 := f44 b hb
  simp only [eBase] at h1
  have hlen := (sItems [] f).len
  have hlen' := ha.len
  simp only [List.length_map] at hlen hlen'
  cases hv : validB b with
  | false =>
    simp only [c67, eBase, h1, hv, evX, Int.reduceEq, Int.reduceLT, Int.reduceLE, Nat.reduceMul, Nat.reduceMod, evW, fn_eq, evR, Nat.reduceAdd, Nat.reduceLT, Nat.reduceLeDiff, reduceIte, Nat.reduceEqDiff, reduceCtorEq, argEnv, eq_self, if_true, if_false]
    simp [errF, hv]
  | true =>
    have h2 := f92 b (valid_tys hv) f
    simp only [eBase] at h2
    cases hf : forestOk b.types f with
    | false =>
      simp only [c67, eBase, h1, hv, h2, hf, evX, Int.reduceEq, Int.reduceLT, Int.reduceLE, Nat.reduceMul, Nat.reduceMod, evW, fn_eq, evR, Nat.reduceAdd, Nat.reduceLT, Nat.reduceLeDiff, reduceIte, Nat.reduceEqDiff, reduceCtorEq, argEnv, eq_self, if_true, if_false]
      simp [errF, hv, hf]
    | true =>
      simp only [c67, eBase, h1, hv, h2, hf, evX, Int.reduceEq, Int.reduceLT, Int.reduceLE, Nat.reduceMul, Nat.reduceMod, evW, fn_eq, evR, Nat.reduceAdd, Nat.reduceLT, Nat.reduceLeDiff, reduceIte, Nat.reduceEqDiff, reduceCtorEq, argEnv, eq_self, if_true, if_false]
      generalize hz : itLim _ _ = z
      have L := all_rule l (fun i => !outOf f i) [1, 2, 7] (fun i => [(1, eItems f), (2, a), (7, .int .i64 (i : Int))]) H [bBase b] (evCode (evC cprog) itLim c67_l0) (fun c T => c = .exit 1) (fun c T => c = .ret ∧ get T 6 = some (.int .i64 2))
        (fun i x hx E G hE => by
          have hlt : i < l.length := (List.getElem?_eq_some_iff.1 hx).1
          have hi : (i : Int) < (l.length : Int) := by omega
          obtain ⟨p, g1, g2⟩ := slI ha hx
          have hw := wrapS hlt hl
          by_cases n1 : x < 0
          · simp only [c67_l0, hE, hi, hlen', g1, g2, n1, evX, Int.reduceEq, Int.reduceLT, Int.reduceLE, Nat.reduceMul, Nat.reduceMod, evW, fn_eq, evR, Nat.reduceAdd, Nat.reduceLT, Nat.reduceLeDiff, reduceIte, Nat.reduceEqDiff, reduceCtorEq, argEnv, eq_self, if_true, if_false]
            exact Sc.ret (by simp [outOf, n1]) ⟨rfl, rfl⟩
          by_cases n2 : (f.length : Int) ≤ x
          · simp only [c67_l0, hE, hi, hlen', hlen, g1, g2, n1, n2, evX, Int.reduceEq, Int.reduceLT, Int.reduceLE, Nat.reduceMul, Nat.reduceMod, evW, fn_eq, evR, Nat.reduceAdd, Nat.reduceLT, Nat.reduceLeDiff, reduceIte, Nat.reduceEqDiff, reduceCtorEq, argEnv, eq_self, if_true, if_false]
            exact Sc.ret (by simp [outOf, n2]) ⟨rfl, rfl⟩
          · simp only [c67_l0, hE, hi, hlen', hlen, g1, g2, n1, n2, hw, evX, Int.reduceEq, Int.reduceLT, Int.reduceLE, Nat.reduceMul, Nat.reduceMod, evW, fn_eq, evR, Nat.reduceAdd, Nat.reduceLT, Nat.reduceLeDiff, reduceIte, Nat.reduceEqDiff, reduceCtorEq, argEnv, eq_self, if_true, if_false]
            exact Sc.next (by simp [outOf]; omega) (by rfl))
        (fun E G hE => by
          simp only [c67_l0, hE, hlen', Int.lt_irrefl, evX, Int.reduceEq, Int.reduceLT, Int.reduceLE, Nat.reduceMul, Nat.reduceMod, evW, fn_eq, evR, Nat.reduceAdd, Nat.reduceLT, Nat.reduceLeDiff, reduceIte, Nat.reduceEqDiff, reduceCtorEq, argEnv, eq_self, if_true, if_false]
          exact .exit (K := [bBase b]) rfl) _ [] (by rfl) (by simp [bBase]) z hz
      rcases L with ⟨ha, c, T, G, rfl, _, rfl⟩ | ⟨ha, c, T, G, rfl, _, rfl, hT⟩
      · simp only [evX, Int.reduceEq, Int.reduceLT, Int.reduceLE, Nat.reduceMul, Nat.reduceMod, evW, fn_eq, evR, Nat.reduceAdd, Nat.reduceLT, Nat.reduceLeDiff, reduceIte, Nat.reduceEqDiff, reduceCtorEq, argEnv, eq_self, if_true, if_false]
        have : l.any (outOf f) = false := by rw [List.any_eq_false]; intro x hx; have := List.all_eq_true.1 ha x hx; simpa using this
        simp [errF, hv, hf, this]
      · simp only [hT, evX, Int.reduceEq, Int.reduceLT, Int.reduceLE, Nat.reduceMul, Nat.reduceMod, evW, fn_eq, evR, Nat.reduceAdd, Nat.reduceLT, Nat.reduceLeDiff, reduceIte, Nat.reduceEqDiff, reduceCtorEq, argEnv, eq_self, if_true, if_false]
        have : l.any (outOf f) = true := by
          obtain ⟨x, hx, h⟩ := List.all_eq_false.1 ha
          rw [List.any_eq_true]; exact ⟨x, hx, by simpa using h⟩
        simp [errF, hv, hf, this]
theorem f88 (b : Base) (ht : tysOk b.types = true) (k : Nat) (hk : k < b.types.length) (h8 : b.types.length ≤ 1000) (H : Heap) : cal (evC cprog) false 88 [eBase b, .int .i64 (k : Int)] H = some (.int .i64 ((anc b.types k).length : Int), H) := by
  rw [cal_of at88]
  simp only [c88, eBase, evX, Int.reduceEq, Int.reduceLT, Int.reduceLE, Nat.reduceMul, Nat.reduceMod, evW, fn_eq, evR, Nat.reduceAdd, Nat.reduceLT, Nat.reduceLeDiff, reduceIte, Nat.reduceEqDiff, reduceCtorEq, argEnv, eq_self, if_true, if_false]
  generalize hz : itLim _ _ = z
  have key : ∀ H' : Heap, Sits H' H.length (bBase b) → ∀ st : St, keepEnv st.1 [1, 2, 5] = [(1, .int .i64 (k : Int)), (2, .ptr H.length 0 4 0 0), (5, .int .i64 0)] → st.2 = H' → ∀ z, itLim (evCode (evC cprog) itLim c88_l0) st = z → ∃ T, z = some (.exit 0, T, H') ∧ get T 5 = some (.int .i64 ((anc b.types k).length : Int)) := by
    intro H' hs st h1 h2 z hz
    simp only [bBase, Sits] at hs
    have hs0 := hs []
    simp only [List.append_nil] at hs0
    have L := loop_rule (σ := Int × Nat) (m := [1, 2, 5]) (env := fun s => [(1, .int .i64 s.1), (2, .ptr H.length 0 4 0 0), (5, .int .i64 (s.2 : Int))]) (hp := fun _ => H')
      (P := fun s r => ∃ T, r = (.exit 0, T, H') ∧ get T 5 = some (.int .i64 (((ancI b.types s.1).length + s.2 : Nat) : Int))) (mu := fun s => (s.1 + 1).toNat)
      (I := fun s => -1 ≤ s.1 ∧ s.1 < (b.types.length : Int) ∧ s.1 + s.2 ≤ 2000) (evCode (evC cprog) itLim c88_l0) ?_ ((k : Int), 0) st ⟨by simp only; omega, by simp only; omega, by simp only; omega⟩ h1 h2 z hz
    · obtain ⟨_, rfl, T, rfl, hT⟩ := L
      exact ⟨T, rfl, by simpa [ancI_nat] using hT⟩
    · intro ⟨t, n⟩ ⟨i1, i2, i3⟩ E hE
      simp only at i1 i2 i3 hE ⊢
      by_cases h0 : 0 ≤ t
      · obtain ⟨j, rfl⟩ : ∃ j : Nat, t = (j : Int) := ⟨t.toNat, by omega⟩
        obtain ⟨t, hj⟩ : ∃ t, b.types[j]? = some t := ⟨_, List.getElem?_eq_getElem (by omega)⟩
        have ha := aTy hj
        have hgt := tys_good ht j t (by omega) hj
        have hst := anc_step (tys_good ht) (by omega) hj
        have hw := wrapS (i := n) (n := 2001) (by omega) (by omega)
        simp only [c88_l0, hE, h0, ha, hs0, rTy, hw, evX, Int.reduceEq, Int.reduceLT, Int.reduceLE, Nat.reduceMul, Nat.reduceMod, evW, fn_eq, evR, Nat.reduceAdd, Nat.reduceLT, Nat.reduceLeDiff, reduceIte, Nat.reduceEqDiff, reduceCtorEq, argEnv, eq_self, if_true, if_false]
        refine q_next (t.parent, n + 1) (by rfl) rfl ⟨by omega, by simp only; omega, by simp only; omega⟩ (by simp only; omega) fun r h => ?_
        obtain ⟨T, h3, h⟩ := h
        refine ⟨T, h3, ?_⟩
        rw [ancI_nat, hst, h, List.length_append, List.length_singleton]
        simp only
        congr 3; omega
      · simp only [c88_l0, hE, h0, evX, Int.reduceEq, Int.reduceLT, Int.reduceLE, Nat.reduceMul, Nat.reduceMod, evW, fn_eq, evR, Nat.reduceAdd, Nat.reduceLT, Nat.reduceLeDiff, reduceIte, Nat.reduceEqDiff, reduceCtorEq, argEnv, eq_self, if_true, if_false]
        exact q_exit ⟨_, rfl, by rw [ancI_neg _ (by omega)]; simp [Ev.get]⟩
  obtain ⟨T, rfl, hT⟩ := key (H ++ [bBase b]) (.mk (by simp)) _ (by rfl) (by simp [bBase]) z hz
  simp only [hT, evX, Int.reduceEq, Int.reduceLT, Int.reduceLE, Nat.reduceMul, Nat.reduceMod, evW, fn_eq, evR, Nat.reduceAdd, Nat.reduceLT, Nat.reduceLeDiff, reduceIte, Nat.reduceEqDiff, reduceCtorEq, argEnv, eq_self, if_true, if_false]
end Go.Proofs.Ytbchmbddcdionaa.Code

/- plain: ends of subtrees, of the program and of the document. -/
set_option linter.unusedSimpArgs false
set_option linter.unusedVariables false
namespace Go.Proofs.Ytbchmbddcdionaa.Code
open Go.Proofs.Ytbchmbddcdionaa.Ev

theorem anc_len8 {b : Base} {f : List Item} (h : Right b f) {k : Nat} (hk : k < b.types.length) : (anc b.types k).length ≤ 5 ∧ b.types.length ≤ 8 := by
  obtain ⟨t, ht⟩ : ∃ t, b.types[k]? = some t := ⟨_, List.getElem?_eq_getElem hk⟩
  have h1 := tell_true.1 h.tys k t ht
  simp only [tyAt, Bool.and_eq_true, decide_eq_true_eq] at h1
  have h2 := h.valid
  simp only [validB, areTys, Bool.and_eq_true, decide_eq_true_eq] at h2
  omega
theorem f63 (b : Base) (f : List Item) (hr : Right b f) (i : Nat) (hi : i < f.length) (H : Heap) : cal (evC cprog) false 63 [eBase b, eItems f, .int .i64 (i : Int)] H = some (.int .i64 (endOf b.types f i : Int), H) := by
  rw [cal_of at63]
  obtain ⟨x, k, t, hx, hk, hkl, ht, _⟩ := hr.item hi
  have ha := aItem hx
  have h8 := anc_len8 hr hkl
  have h67 := f88 b hr.tys k hkl (by omega)
  rw [← hk] at h67
  simp only [eBase] at h67
  have hl := hr.len
  have hlen := (sItems [] f).len
  simp only [List.length_map] at hlen
  have hw := wrapS (i := i) (n := 300) (by omega) (by omega)
  have hd : (anc b.types k).length = (pth b.types f i).length := by rw [pth_len hr i i (Nat.le_refl _) hi, typ_at hx, hk, Int.toNat_natCast]
  rw [hd] at h67
  simp only [c63, eBase, ha, rItem, h67, hw, evX, Int.reduceEq, Int.reduceLT, Int.reduceLE, Nat.reduceMul, Nat.reduceMod, evW, fn_eq, evR, Nat.reduceAdd, Nat.reduceLT, Nat.reduceLeDiff, reduceIte, Nat.reduceEqDiff, reduceCtorEq, argEnv, eq_self, if_true, if_false]
  generalize hz : itLim _ _ = z
  have key : ∀ H' : Heap, Sits H' H.length (bBase b) → ∀ st : St, keepEnv st.1 [1, 2, 3, 7] = [(1, eItems f), (2, .int .i64 ((i + 1 : Nat) : Int)), (3, .ptr H.length 0 4 0 0), (7, .int .i64 ((pth b.types f i).length : Int))] → st.2 = H' → ∀ z, itLim (evCode (evC cprog) itLim c63_l0) st = z →
      ∃ T, z = some (.exit 0, T, H') ∧ get T 2 = some (.int .i64 (endOf b.types f i : Int)) := by
    intro H' hs st h1 h2 z hz
    simp only [bBase, Sits] at hs
    have hs0 := hs []
    simp only [List.append_nil] at hs0
    have L := loop_rule (σ := Nat) (m := [1, 2, 3, 7]) (env := fun k => [(1, eItems f), (2, .int .i64 (k : Int)), (3, .ptr H.length 0 4 0 0), (7, .int .i64 ((pth b.types f i).length : Int))]) (hp := fun _ => H')
      (P := fun _ r => ∃ T, r = (.exit 0, T, H') ∧ get T 2 = some (.int .i64 (endOf b.types f i : Int))) (mu := fun k => f.length - k)
      (I := fun k => i < k ∧ k ≤ f.length ∧ ∀ j : Nat, i < j → j < k → (i : Int) ∈ pth b.types f j) (evCode (evC cprog) itLim c63_l0) ?_ (i + 1) st ⟨by omega, by omega, fun j h1 h2 => by omega⟩ h1 h2 z hz
    · obtain ⟨_, rfl, T, rfl, hT⟩ := L
      exact ⟨T, rfl, hT⟩
    · intro k ⟨i1, i2, i3⟩ E hE
      by_cases hkl : k < f.length
      · have hk1 : (k : Int) < (f.length : Int) := by omega
        obtain ⟨y, c, u, hy, hc, hcl, hu, _⟩ := hr.item hkl
        have hay := aItem hy
        have h67' := f88 b hr.tys c hcl (by omega)
        rw [← hc] at h67'
        simp only [eBase] at h67'
        have hd' : (anc b.types c).length = (pth b.types f k).length := by rw [pth_len hr k k (Nat.le_refl _) hkl, typ_at hy, hc, Int.toNat_natCast]
        rw [hd'] at h67'
        have hwk := wrapS (i := k) (n := 300) (by omega) (by omega)
        have hiff := below_len hr i1 hkl (IsEnd.way i3 i1 (Nat.le_refl _))
        by_cases hm : (i : Int) ∈ pth b.types f k
        · have hlt : ((pth b.types f i).length : Int) < ((pth b.types f k).length : Int) := by have := hiff.1 hm; omega
          simp only [c63_l0, hE, hk1, hlen, hay, hs0, rItem, h67', hlt, hwk, evX, Int.reduceEq, Int.reduceLT, Int.reduceLE, Nat.reduceMul, Nat.reduceMod, evW, fn_eq, evR, Nat.reduceAdd, Nat.reduceLT, Nat.reduceLeDiff, reduceIte, Nat.reduceEqDiff, reduceCtorEq, argEnv, eq_self, if_true, if_false]
          refine q_next (k + 1) (by rfl) rfl ⟨by omega, by omega, fun j h1 h2 => ?_⟩ (by omega) fun r h => h
          by_cases e : j = k
          · subst e; exact hm
          · exact i3 j h1 (by omega)
        · have hlt : ¬ ((pth b.types f i).length : Int) < ((pth b.types f k).length : Int) := fun h => hm (hiff.2 (by omega))
          simp only [c63_l0, hE, hk1, hlen, hay, hs0, rItem, h67', hlt, evX, Int.reduceEq, Int.reduceLT, Int.reduceLE, Nat.reduceMul, Nat.reduceMod, evW, fn_eq, evR, Nat.reduceAdd, Nat.reduceLT, Nat.reduceLeDiff, reduceIte, Nat.reduceEqDiff, reduceCtorEq, argEnv, eq_self, if_true, if_false]
          refine q_exit ⟨_, rfl, ?_⟩
          rw [(endOf_is b.types f hi).uniq ⟨i1, i2, i3, fun _ => hm⟩]; rfl
      · have hk1 : ¬ (k : Int) < (f.length : Int) := by omega
        simp only [c63_l0, hE, hk1, hlen, evX, Int.reduceEq, Int.reduceLT, Int.reduceLE, Nat.reduceMul, Nat.reduceMod, evW, fn_eq, evR, Nat.reduceAdd, Nat.reduceLT, Nat.reduceLeDiff, reduceIte, Nat.reduceEqDiff, reduceCtorEq, argEnv, eq_self, if_true, if_false]
        refine q_exit ⟨_, rfl, ?_⟩
        rw [(endOf_is b.types f hi).uniq ⟨i1, i2, i3, fun h => absurd h hkl⟩]; rfl
  obtain ⟨T, rfl, hT⟩ := key (H ++ [bBase b]) (.mk (by simp)) _ (by rfl) (by simp [bBase]) z hz
  simp only [hT, evX, Int.reduceEq, Int.reduceLT, Int.reduceLE, Nat.reduceMul, Nat.reduceMod, evW, fn_eq, evR, Nat.reduceAdd, Nat.reduceLT, Nat.reduceLeDiff, reduceIte, Nat.reduceEqDiff, reduceCtorEq, argEnv, eq_self, if_true, if_false]
end Go.Proofs.Ytbchmbddcdionaa.Code

/- plain: Delete, of the program and of the document. -/
set_option linter.unusedSimpArgs false
set_option linter.unusedVariables false
namespace Go.Proofs.Ytbchmbddcdionaa.Code
open Go.Proofs.Ytbchmbddcdionaa.Ev

theorem plain_items (l : List Item) : Plain (l.map rItem) := fz_rItem l
theorem plain_ints (l : List Int) : Plain (l.map rI) := fz_rI l
def eLE (l : List Item) (e : Int) : AV := .tup [eItems l, .int .i64 e]
theorem errF_zero {b : Base} {f : List Item} {l : List Int} (hb : b.Ok) (h : errF b f l = 0) : Right b f ∧ ∀ i ∈ l, 0 ≤ i ∧ i < (f.length : Int) := by
  unfold errF at h
  split at h
  · rename_i hv
    split at h
    · rename_i hf
      split at h
      · cases h
      · rename_i ho
        refine ⟨⟨hb, hv, hf⟩, fun i hi => ?_⟩
        have := List.any_eq_false.1 (Bool.eq_false_iff.2 ho) i hi
        simp only [outOf, Bool.or_eq_true, decide_eq_true_eq] at this
        omega
    · cases h
  · cases h
noncomputable def delR (b : Base) (f : List Item) (i : Int) : List Item := if errF b f [i] = 0 then f.take i.toNat ++ f.drop (endOf b.types f i.toNat) else []
theorem one_slat (H : Heap) (n : Int) (X : Heap) : SlAt (H ++ (X ++ [⟨0, true, 3, 1, [[.int .i64 n]]⟩])) 1 (.ref (H.length + X.length) 0 1 0 1) ([n].map rI) := by
  refine .ref (rows := [rI n]) (k := ⟨0, true, 3, 1, [[.int .i64 n]]⟩) ?_ fun i row hi => ?_
  · simp [curBlk, at_app]
  · cases i with
    | zero => simp at hi; subst hi; exact ⟨rfl, rfl⟩
    | succ i => simp at hi
theorem items_ne {f : List Item} {i : Nat} (h : i < f.length) : ∃ y ys, f = y :: ys := by
  cases f with
  | nil => simp at h
  | cons y ys => exact ⟨y, ys, rfl⟩
theorem f37 {f : List Item} {i : Nat} (h : i < f.length) (hl : f.length ≤ 1000) (H : Heap) : cal (evC cprog) false 37 [eItems f] H = some (.ref H.length 0 2 0 f.length, H ++ [⟨0, true, 44, 2, f.map rItem⟩]) := by
  obtain ⟨y, ys, rfl⟩ := items_ne h
  have := clone_lst (ty := 44) (sz := 2) (bytes := 24) at37 (rItem y) (ys.map rItem) H rfl (by simp [reach] at *; omega)
  rw [List.length_map] at this
  exact this
def zItem : List AV := [.int .i64 0, .str ⟨#[]⟩]
theorem f36 (b : Base) (hb : b.Ok) (f : List Item) (hfl : f.length < 9223372036854775807) (i : Int) (H : Heap) : cal (evC cprog) true 36 [eBase b, eItems f, .int .i64 i] H = some (eLE (delR b f i) (errF b f [i]), H) := by
  rw [cal_of at36]
  have h37 := f61 b hb f (.ref (H.length + 1) 0 1 0 1) rfl [i] (by simp) (H ++ [bBase b, bI i]) (one_slat H i [bBase b])
  simp only [eBase, bBase, bI] at h37
  by_cases he : errF b f [i] = 0
  · obtain ⟨hr, ho⟩ := errF_zero hb he
    obtain ⟨h0, h1⟩ := ho i (by simp)
    obtain ⟨i, rfl⟩ : ∃ j : Nat, i = (j : Int) := ⟨i.toNat, by omega⟩
    have hi : i < f.length := by omega
    have hl := hr.len
    have h39 := f37 hi (by omega)
    have h40 := f63 b f hr i hi
    simp only [eBase] at h40
    have hend := endOf_is b.types f hi
    have h38 := delete_ref (ty := 44) (sz := 2) (bytes := 24) (zero := zItem) at62 rfl (H.length + 2) 0 (f.map rItem) (fun r hr => by obtain ⟨_, _, rfl⟩ := List.mem_map.1 hr; rfl) (H ++ [bBase b, bI i, ⟨0, true, 44, 2, f.map rItem⟩]) (by simp) i (endOf b.types f i) hend.lt (by rw [List.length_map]; exact hend.le)
    simp only [bBase, bI, List.length_map] at h38
    rw [he] at h37
    have hd : delR b f (i : Int) = f.take i ++ f.drop (endOf b.types f i) := by unfold delR; rw [if_pos he, Int.toNat_natCast]
    rw [hd, he]
    simp only [c36, eBase, cells_eItems, isTup_eItems, h37, h39, h40, h38, evX, Int.reduceEq, Int.reduceLT, Int.reduceLE, Nat.reduceMul, Nat.reduceMod, evW, fn_eq, evR, Nat.reduceAdd, Nat.reduceLT, Nat.reduceLeDiff, reduceIte, Nat.reduceEqDiff, reduceCtorEq, argEnv, eq_self, if_true, if_false]
    have hle := hend.le
    have hlt := hend.lt
    have hrows : (f.map rItem).take i ++ (f.map rItem).drop (endOf b.types f i) = (f.take i ++ f.drop (endOf b.types f i)).map rItem := by simp
    have hlen : (f.take i ++ f.drop (endOf b.types f i)).length = i + (f.length - endOf b.types f i) := by simp; omega
    obtain ⟨ids, g1, g2⟩ := fz_blk (H := H ++ [bBase b, bI i, ⟨0, true, 44, 2, (f.map rItem).take i ++ ((f.map rItem).drop (endOf b.types f i) ++ List.replicate (endOf b.types f i - i) zItem)⟩]) (b := H.length + 2) (v := 0) (sz := 2) (len := i + (f.length - endOf b.types f i))
      (k := ⟨0, true, 44, 2, (f.map rItem).take i ++ ((f.map rItem).drop (endOf b.types f i) ++ List.replicate (endOf b.types f i - i) zItem)⟩) (by simp [curBlk]) (rows := (f.take i ++ f.drop (endOf b.types f i)).map rItem) (by
        rw [← List.append_assoc, hrows, List.take_left' (by rw [List.length_map]; exact hlen)]) (plain_items _) 6
    exact frz_two (ids := ids) g1 rfl (by simp) (fun x hx => by have := g2 x hx; omega) _ _
  · rw [show delR b f i = [] from if_neg he]
    simp only [c36, eBase, cells_eItems, isTup_eItems, h37, he, evX, Int.reduceEq, Int.reduceLT, Int.reduceLE, Nat.reduceMul, Nat.reduceMod, evW, fn_eq, evR, Nat.reduceAdd, Nat.reduceLT, Nat.reduceLeDiff, reduceIte, Nat.reduceEqDiff, reduceCtorEq, argEnv, eq_self, if_true, if_false]
    exact frz_two (fz_nils _) rfl (by simp) (by simp) _ _
end Go.Proofs.Ytbchmbddcdionaa.Code

/- plain: fits, keys and Replace, of the program and of the document. -/
set_option linter.unusedSimpArgs false
set_option linter.unusedVariables false
namespace Go.Proofs.Ytbchmbddcdionaa.Code
open Go.Proofs.Ytbchmbddcdionaa.Ev

def tyOut (ts : List Ty) (i : Int) : Bool := decide (i < 0) || decide ((ts.length : Int) ≤ i)
noncomputable def errB (b : Base) (l : List Int) : Int := if validB b = true then (if l.any (tyOut b.types) = true then 2 else 0) else 100
theorem f121 (b : Base) (t : Int) (H : Heap) : cal (evC cprog) false 121 [eBase b, .int .i64 t] H = some (.bool (!tyOut b.types t), H) := by
  rw [cal_of at121]
  have hlen := (sTys [] b.types).len
  simp only [List.length_map] at hlen
  by_cases h0 : 0 ≤ t <;> by_cases h1 : t < (b.types.length : Int)
  all_goals
    have h2 : tyOut b.types t = !(decide (0 ≤ t) && decide (t < (b.types.length : Int))) := by
      unfold tyOut
      by_cases g0 : t < 0 <;> by_cases g1 : (b.types.length : Int) ≤ t <;> simp only [g0, g1, h0, h1, decide_true, decide_false, Bool.or_true, Bool.true_or, Bool.or_false, Bool.and_true, Bool.and_false, Bool.not_true, Bool.not_false, Bool.and_self] <;> omega
    rw [h2]
    simp only [h0, h1, decide_true, decide_false, Bool.and_self, Bool.and_true, Bool.and_false, Bool.not_not]
  · simp only [c121, eBase, hlen, h0, h1, evX, Int.reduceEq, Int.reduceLT, Int.reduceLE, Nat.reduceMul, Nat.reduceMod, evW, fn_eq, evR, Nat.reduceAdd, Nat.reduceLT, Nat.reduceLeDiff, reduceIte, Nat.reduceEqDiff, reduceCtorEq, argEnv, eq_self, if_true, if_false]
  · simp only [c121, eBase, hlen, h0, h1, evX, Int.reduceEq, Int.reduceLT, Int.reduceLE, Nat.reduceMul, Nat.reduceMod, evW, fn_eq, evR, Nat.reduceAdd, Nat.reduceLT, Nat.reduceLeDiff, reduceIte, Nat.reduceEqDiff, reduceCtorEq, argEnv, eq_self, if_true, if_false]
  · simp only [c121, eBase, hlen, h0, h1, evX, Int.reduceEq, Int.reduceLT, Int.reduceLE, Nat.reduceMul, Nat.reduceMod, evW, fn_eq, evR, Nat.reduceAdd, Nat.reduceLT, Nat.reduceLeDiff, reduceIte, Nat.reduceEqDiff, reduceCtorEq, argEnv, eq_self, if_true, if_false]
  · simp only [c121, eBase, hlen, h0, h1, evX, Int.reduceEq, Int.reduceLT, Int.reduceLE, Nat.reduceMul, Nat.reduceMod, evW, fn_eq, evR, Nat.reduceAdd, Nat.reduceLT, Nat.reduceLeDiff, reduceIte, Nat.reduceEqDiff, reduceCtorEq, argEnv, eq_self, if_true, if_false]
theorem f117 (b : Base) (hb : b.Ok) (a : AV) (l : List Int) (hl : l.length < 9223372036854775807) (H : Heap) (ha : SlAt H 1 a (l.map rI)) : cal (evC cprog) false 117 [eBase b, a] H = some (.int .i64 (errB b l), H) := by
  rw [cal_of at117]
  have h1 := f44 b hb
  have h2 := f121 b
  simp only [eBase] at h1 h2
  have hlen' := ha.len
  simp only [List.length_map] at hlen'
  cases hv : validB b with
  | false =>
    simp only [c117, eBase, h1, hv, evX, Int.reduceEq, Int.reduceLT, Int.reduceLE, Nat.reduceMul, Nat.reduceMod, evW, fn_eq, evR, Nat.reduceAdd, Nat.reduceLT, Nat.reduceLeDiff, reduceIte, Nat.reduceEqDiff, reduceCtorEq, argEnv, eq_self, if_true, if_false]
    simp [errB, hv]
  | true =>
    simp only [c117, eBase, h1, hv, evX, Int.reduceEq, Int.reduceLT, Int.reduceLE, Nat.reduceMul, Nat.reduceMod, evW, fn_eq, evR, Nat.reduceAdd, Nat.reduceLT, Nat.reduceLeDiff, reduceIte, Nat.reduceEqDiff, reduceCtorEq, argEnv, eq_self, if_true, if_false]
    generalize hz : itLim _ _ = z
    have key : ∀ (H' : Heap) (b1 : Nat), Sits H' b1 (bBase b) → SlAt H' 1 a (l.map rI) → ∀ (st : St) (G : Heap), keepEnv st.1 [1, 2, 5] = [(1, a), (2, .ptr b1 0 4 0 0), (5, .int .i64 0)] → st.2 = H' ++ ([] ++ G) → ∀ z, itLim (evCode (evC cprog) itLim c117_l0) st = z →
        (l.all (fun i => !tyOut b.types i) = true ∧ Lv H' [] (fun c T => c = .exit 0) z) ∨ (l.all (fun i => !tyOut b.types i) = false ∧ Lv H' [] (fun c T => c = .ret ∧ get T 4 = some (.int .i64 2)) z) := by
      intro H' b1 hs ha st G hE hH z hz
      simp only [bBase, Sits] at hs
      exact all_rule l _ [1, 2, 5] (fun i => [(1, a), (2, .ptr b1 0 4 0 0), (5, .int .i64 (i : Int))]) H' [] (evCode (evC cprog) itLim c117_l0) _ _
        (fun i x hx E G hE => by
          have hlt : i < l.length := (List.getElem?_eq_some_iff.1 hx).1
          have hi : (i : Int) < (l.length : Int) := by omega
          obtain ⟨p, g1, g2⟩ := slI ha hx
          have hw := wrapS hlt hl
          cases ho : tyOut b.types x with
          | true =>
            simp only [c117_l0, hE, hi, hlen', hs, g1, g2, h2, ho, evX, Int.reduceEq, Int.reduceLT, Int.reduceLE, Nat.reduceMul, Nat.reduceMod, evW, fn_eq, evR, Nat.reduceAdd, Nat.reduceLT, Nat.reduceLeDiff, reduceIte, Nat.reduceEqDiff, reduceCtorEq, argEnv, eq_self, if_true, if_false]
            exact Sc.ret rfl ⟨rfl, rfl⟩
          | false =>
            simp only [c117_l0, hE, hi, hlen', hs, g1, g2, h2, ho, hw, evX, Int.reduceEq, Int.reduceLT, Int.reduceLE, Nat.reduceMul, Nat.reduceMod, evW, fn_eq, evR, Nat.reduceAdd, Nat.reduceLT, Nat.reduceLeDiff, reduceIte, Nat.reduceEqDiff, reduceCtorEq, argEnv, eq_self, if_true, if_false]
            exact Sc.next rfl (by rfl))
        (fun E G hE => by
          simp only [c117_l0, hE, hlen', Int.lt_irrefl, evX, Int.reduceEq, Int.reduceLT, Int.reduceLE, Nat.reduceMul, Nat.reduceMod, evW, fn_eq, evR, Nat.reduceAdd, Nat.reduceLT, Nat.reduceLeDiff, reduceIte, Nat.reduceEqDiff, reduceCtorEq, argEnv, eq_self, if_true, if_false]
          exact .exit (K := []) rfl) st G hE hH z hz
    rcases key (H ++ [bBase b]) H.length (.mk (by simp)) (ha.app _) _ [] (by rfl) (by simp [bBase]) z hz with ⟨ha, c, T, G, rfl, _, rfl⟩ | ⟨ha, c, T, G, rfl, _, rfl, hT⟩
    · simp only [evX, Int.reduceEq, Int.reduceLT, Int.reduceLE, Nat.reduceMul, Nat.reduceMod, evW, fn_eq, evR, Nat.reduceAdd, Nat.reduceLT, Nat.reduceLeDiff, reduceIte, Nat.reduceEqDiff, reduceCtorEq, argEnv, eq_self, if_true, if_false]
      have : l.any (tyOut b.types) = false := by rw [List.any_eq_false]; intro x hx; have := List.all_eq_true.1 ha x hx; simpa using this
      simp [errB, hv, this]
    · simp only [hT, evX, Int.reduceEq, Int.reduceLT, Int.reduceLE, Nat.reduceMul, Nat.reduceMod, evW, fn_eq, evR, Nat.reduceAdd, Nat.reduceLT, Nat.reduceLeDiff, reduceIte, Nat.reduceEqDiff, reduceCtorEq, argEnv, eq_self, if_true, if_false]
      have : l.any (tyOut b.types) = true := by
        obtain ⟨x, hx, h⟩ := List.all_eq_false.1 ha
        rw [List.any_eq_true]; exact ⟨x, hx, by simpa using h⟩
      simp [errB, hv, this]
theorem errB_ok {b : Base} (hv : validB b = true) {k : Nat} (hk : k < b.types.length) : errB b [(k : Int)] = 0 := by
  have h : tyOut b.types (k : Int) = false := by simp [tyOut]; omega
  unfold errB
  rw [if_pos hv, if_neg (by simp [h])]
theorem f101 (b : Base) (hb : b.Ok) (hv : validB b = true) (k : Nat) (t : Ty) (ht : b.types[k]? = some t) (d : ByteArray) (H : Heap) :
    cal (evC cprog) false 101 [eBase b, .int .i64 (k : Int), .str d] H = some (bEr (fits b.types ⟨(k : Int), d⟩) 0, H) := by
  rw [cal_of at101]
  have hk := (List.getElem?_eq_some_iff.1 ht).1
  have h82 := f117 b hb (.ref (H.length + 1) 0 1 0 1) [(k : Int)] (by simp) (H ++ [bBase b, bI (k : Int)]) (one_slat H (k : Int) [bBase b])
  rw [errB_ok hv hk] at h82
  simp only [eBase, bBase, bI] at h82
  have hat := aTy ht
  rw [fits_at (x := ⟨(k : Int), d⟩) rfl ht]
  simp only [c101, eBase, h82, hat, rTy, bEr, evX, Int.reduceEq, Int.reduceLT, Int.reduceLE, Nat.reduceMul, Nat.reduceMod, evW, fn_eq, evR, Nat.reduceAdd, Nat.reduceLT, Nat.reduceLeDiff, reduceIte, Nat.reduceEqDiff, reduceCtorEq, argEnv, eq_self, if_true, if_false]
  repeat' ((first | rw [guardK_cases] | rw [condK_bool] | rw [guardD_cases]); split <;> simp only [c101, eBase, h82, hat, rTy, bEr, evX, Int.reduceEq, Int.reduceLT, Int.reduceLE, Nat.reduceMul, Nat.reduceMod, evW, evR, Nat.reduceAdd, Nat.reduceLT, Nat.reduceLeDiff, reduceIte, Nat.reduceEqDiff, reduceCtorEq, argEnv, eq_self, if_true, if_false, *])
  all_goals simp_all [bEr]
theorem f78 (b : Base) (hb : b.Ok) (hv : validB b = true) (k : Nat) (t : Ty) (ht : b.types[k]? = some t) (hty : tyOk t = true) (d : ByteArray) (hf : fits b.types ⟨(k : Int), d⟩ = true) (hk : 0 ≤ t.key) (H : Heap) :
    cal (evC cprog) false 78 [eBase b, .int .i64 (k : Int), .str d, .int .i64 t.key] H = some (.tup [.str (keyOf t d), .bool true, .int .i64 0], H) := by
  rw [cal_of at78]
  have h69 := f101 b hb hv k t ht d
  rw [hf] at h69
  simp only [eBase, bEr] at h69
  have hat := aTy ht
  obtain ⟨m, f, h1, h2, h3, h4, h5, h6⟩ := key_in hty hk
  have haf := aFd h2
  have hml := (List.getElem?_eq_some_iff.1 h2).1
  have hfl := (sFds [] t.fields).len
  simp only [List.length_map] at hfl
  have hmin : t.min ≤ (d.size : Int) := by
    rw [fits_at (x := ⟨(k : Int), d⟩) rfl ht] at hf
    simp only [Bool.and_eq_true, decide_eq_true_eq] at hf
    exact hf.1
  have hw := wrapQ (a := f.at') (b := f.bytes) (by omega) (by omega) (by omega) (by omega)
  have k0 : ¬ (m : Int) < 0 := by omega
  have k1 : ¬ (t.fields.length : Int) ≤ (m : Int) := by omega
  have k2 : ¬ (d.size : Int) < f.at' + f.bytes := by omega
  have hsl := slcs_at d (a := f.at') (c := f.at' + f.bytes) h3 (by omega) (by omega)
  rw [keyOf_at h1 h2, h1]
  simp only [c78, eBase, h69, hat, hfl, rTy, rFd, k0, k1, k2, haf, hw, p_slcs, slcsK_some, asNat_int h3, asNat_int (show 0 ≤ f.at' + f.bytes by omega), hsl, evX, Int.reduceEq, Int.reduceLT, Int.reduceLE, Nat.reduceMul, Nat.reduceMod, evW, fn_eq, evR, Nat.reduceAdd, Nat.reduceLT, Nat.reduceLeDiff, reduceIte, Nat.reduceEqDiff, reduceCtorEq, argEnv, eq_self, if_true, if_false]
theorem f79 (b : Base) (hb : b.Ok) (hv : validB b = true) (k : Nat) (t : Ty) (ht : b.types[k]? = some t) (hty : tyOk t = true) (d : ByteArray) (H : Heap) :
    cal (evC cprog) false 79 [eBase b, .int .i64 (k : Int), .str d] H = some (if fits b.types ⟨(k : Int), d⟩ = true then .tup [.str (keyOf t d), .int .i64 0] else .tup [.str ⟨#[]⟩, .int .i64 2], H) := by
  rw [cal_of at79]
  have h69 := f101 b hb hv k t ht d
  simp only [eBase, bEr] at h69
  have hat := aTy ht
  cases hf : fits b.types ⟨(k : Int), d⟩ with
  | false =>
    rw [hf] at h69
    simp only [c79, eBase, h69, evX, Int.reduceEq, Int.reduceLT, Int.reduceLE, Nat.reduceMul, Nat.reduceMod, evW, fn_eq, evR, Nat.reduceAdd, Nat.reduceLT, Nat.reduceLeDiff, reduceIte, Nat.reduceEqDiff, reduceCtorEq, argEnv, eq_self, if_true, if_false]
  | true =>
    rw [hf] at h69
    by_cases hk : t.key < 0
    · simp only [c79, eBase, h69, hat, rTy, hk, evX, Int.reduceEq, Int.reduceLT, Int.reduceLE, Nat.reduceMul, Nat.reduceMod, evW, fn_eq, evR, Nat.reduceAdd, Nat.reduceLT, Nat.reduceLeDiff, reduceIte, Nat.reduceEqDiff, reduceCtorEq, argEnv, eq_self, if_true, if_false]
      simp [keyOf, hk]
    · have h70 := f78 b hb hv k t ht hty d hf (by omega)
      simp only [eBase] at h70
      simp only [c79, eBase, h69, hat, rTy, hk, h70, evX, Int.reduceEq, Int.reduceLT, Int.reduceLE, Nat.reduceMul, Nat.reduceMod, evW, fn_eq, evR, Nat.reduceAdd, Nat.reduceLT, Nat.reduceLeDiff, reduceIte, Nat.reduceEqDiff, reduceCtorEq, argEnv, eq_self, if_true, if_false]
end Go.Proofs.Ytbchmbddcdionaa.Code

/- plain: Replace, of the program and of the document. -/
set_option linter.unusedSimpArgs false
set_option linter.unusedVariables false
namespace Go.Proofs.Ytbchmbddcdionaa.Code
open Go.Proofs.Ytbchmbddcdionaa.Ev

end Go.Proofs.Ytbchmbddcdionaa.Code

/- logic: in the place of plain's law on changes. -/
set_option linter.unusedSimpArgs false
set_option linter.unusedVariables false
namespace Go.Proofs.Ytbchmbddcdionaa.Code
end Go.Proofs.Ytbchmbddcdionaa.Code

/- plain: which types are a part, and copies of types. -/
set_option linter.unusedSimpArgs false
set_option linter.unusedVariables false
namespace Go.Proofs.Ytbchmbddcdionaa.Code
open Go.Proofs.Ytbchmbddcdionaa.Ev

theorem f112 (b : Base) (t : Int) (b1 : Nat) (H : Heap) (h1 : Sits H b1 (bBase b)) : cal (evC cprog) false 112 [.int .i64 t, .ptr b1 0 4 0 0] H = some (.bool (tyOut b.types t), H) := by
  rw [cal_of at112]
  have hlen := (sTys [] b.types).len
  simp only [List.length_map] at hlen
  have g1 := h1.at
  simp only [bBase] at g1
  simp only [c112, hlen, g1, evX, Int.reduceEq, Int.reduceLT, Int.reduceLE, Nat.reduceMul, Nat.reduceMod, evW, fn_eq, evR, Nat.reduceAdd, Nat.reduceLT, Nat.reduceLeDiff, reduceIte, Nat.reduceEqDiff, reduceCtorEq, argEnv, eq_self, if_true, if_false]
  repeat' ((first | rw [guardK_cases] | rw [condK_bool] | rw [guardD_cases]); split <;> simp only [c112, hlen, g1, evX, Int.reduceEq, Int.reduceLT, Int.reduceLE, Nat.reduceMul, Nat.reduceMod, evW, evR, Nat.reduceAdd, Nat.reduceLT, Nat.reduceLeDiff, reduceIte, Nat.reduceEqDiff, reduceCtorEq, argEnv, eq_self, if_true, if_false, *])
  all_goals (simp_all [tyOut]; try omega)
end Go.Proofs.Ytbchmbddcdionaa.Code

/- logic: valid, held by the kit's walk. -/
set_option linter.unusedSimpArgs false
set_option linter.unusedVariables false
namespace Go.Proofs.Ytbchmbddcdionaa.Ev
open Go Go.RowKit

theorem agg_inv {S : Sta} {cs : List AV} {v : Value} (h : RepV S (.agg cs) v) : ∃ vs : List Value, v = .agg vs.toArray ∧ RepL S cs vs := by
  cases h with
  | one h => cases h with
    | s h => cases h with
      | frz h => cases h
    | agg _ vs h => exact ⟨vs, rfl, h⟩
theorem lst_inv {S : Sta} {l : List (List AV)} {v : Value} (h : RepS S (.lst l) v) : RepF S.M (.lst l) v := by
  cases h with
  | frz h => exact h
theorem int_inv {M : Mem} {k : IntKind} {n : Int} {v : Value} (h : RepF M (.int k n) v) : v = .int k n := by cases h; rfl
theorem str_inv {M : Mem} {s : ByteArray} {v : Value} (h : RepF M (.str s) v) : v = .string s := by cases h; rfl
theorem bool_inv {M : Mem} {b : Bool} {v : Value} (h : RepF M (.bool b) v) : v = .bool b := by cases h; rfl
theorem intS_inv {S : Sta} {k : IntKind} {n : Int} {v : Value} (h : RepS S (.int k n) v) : v = .int k n := by
  cases h with
  | frz h => exact int_inv h
theorem strS_inv {S : Sta} {s : ByteArray} {v : Value} (h : RepS S (.str s) v) : v = .string s := by
  cases h with
  | frz h => exact str_inv h
theorem slice_inv {M : Mem} {l : List (List AV)} {v : Value} (h : RepF M (.lst l) v) : ∃ a cap, v = .slice a l.length cap := by
  cases h with
  | lst0 a cap h => exact ⟨a, cap, rfl⟩
  | lst _ g off sz cap => exact ⟨_, cap, rfl⟩
theorem base_inv {S : Sta} {n : ByteArray} {k : Int} {ta sa : AV} {v : Value} (h : RepV S (.agg [.str n, .int .i64 k, ta, sa]) v) :
    ∃ x y, v = .agg #[.string n, .int .i64 k, x, y] ∧ RepS S ta x := by
  obtain ⟨vs, rfl, hl, hr⟩ := agg_inv h
  match vs, hl with
  | [v0, v1, v2, v3], _ =>
    have h0 := strS_inv (hr 0 _ _ rfl rfl)
    have h1 := intS_inv (hr 1 _ _ rfl rfl)
    exact ⟨v2, v3, by rw [h0, h1], hr 2 _ _ rfl rfl⟩
theorem link_inv {S : Sta} {c fl : Int} {r : ByteArray} {v : Value} (h : RepV S (.agg [.int .i64 c, .int .i64 fl, .str r]) v) :
    v = .agg #[.int .i64 c, .int .i64 fl, .string r] := by
  obtain ⟨vs, rfl, hl, hr⟩ := agg_inv h
  match vs, hl with
  | [v0, v1, v2], _ => rw [intS_inv (hr 0 _ _ rfl rfl), intS_inv (hr 1 _ _ rfl rfl), strS_inv (hr 2 _ _ rfl rfl)]
theorem ty_cells {M : Mem} {w : World} {g o : Nat} {nm : ByteArray} {a1 a2 a3 a5 : Int} {a6 a7 : Bool} {fs : AV}
    (hc : ∀ k x, [AV.str nm, .int .i64 a1, .int .i64 a2, .int .i64 a3, fs, .int .i64 a5, .bool a6, .bool a7][k]? = some x → ∃ u, w.cell? ⟨g, o + k, none⟩ = some u ∧ RepF M x u) :
    (w.cell? ⟨g, o, none⟩ = some (.string nm) ∧ w.cell? ⟨g, o + 1, none⟩ = some (.int .i64 a1) ∧ w.cell? ⟨g, o + 2, none⟩ = some (.int .i64 a2) ∧ w.cell? ⟨g, o + 3, none⟩ = some (.int .i64 a3)) ∧
    (w.cell? ⟨g, o + 5, none⟩ = some (.int .i64 a5) ∧ w.cell? ⟨g, o + 6, none⟩ = some (.bool a6) ∧ w.cell? ⟨g, o + 7, none⟩ = some (.bool a7)) ∧ ∃ y, w.cell? ⟨g, o + 4, none⟩ = some y ∧ RepF M fs y := by
  obtain ⟨u0, c0, r0⟩ := hc 0 _ rfl
  obtain ⟨u1, c1, r1⟩ := hc 1 _ rfl
  obtain ⟨u2, c2, r2⟩ := hc 2 _ rfl
  obtain ⟨u3, c3, r3⟩ := hc 3 _ rfl
  obtain ⟨u4, c4, r4⟩ := hc 4 _ rfl
  obtain ⟨u5, c5, r5⟩ := hc 5 _ rfl
  obtain ⟨u6, c6, r6⟩ := hc 6 _ rfl
  obtain ⟨u7, c7, r7⟩ := hc 7 _ rfl
  rw [str_inv r0] at c0; rw [int_inv r1] at c1; rw [int_inv r2] at c2; rw [int_inv r3] at c3; rw [int_inv r5] at c5; rw [bool_inv r6] at c6; rw [bool_inv r7] at c7
  exact ⟨⟨c0, c1, c2, c3⟩, ⟨c5, c6, c7⟩, u4, c4, r4⟩
theorem fd_cells {M : Mem} {w : World} {g o : Nat} {nm : ByteArray} {a1 a2 : Int}
    (hc : ∀ k x, [AV.str nm, .int .i64 a1, .int .i64 a2][k]? = some x → ∃ u, w.cell? ⟨g, o + k, none⟩ = some u ∧ RepF M x u) :
    w.cell? ⟨g, o, none⟩ = some (.string nm) ∧ w.cell? ⟨g, o + 1, none⟩ = some (.int .i64 a1) ∧ w.cell? ⟨g, o + 2, none⟩ = some (.int .i64 a2) := by
  obtain ⟨u0, c0, r0⟩ := hc 0 _ rfl
  obtain ⟨u1, c1, r1⟩ := hc 1 _ rfl
  obtain ⟨u2, c2, r2⟩ := hc 2 _ rfl
  rw [str_inv r0] at c0; rw [int_inv r1] at c1; rw [int_inv r2] at c2
  exact ⟨c0, c1, c2⟩
theorem calls43 {S : Sta} {w : World} {B : Nat} (hW : WRel S w B) {na nb r : ByteArray} {ka kb c fl : Int} {ta tb : AV} {b : Bool} {x y x' y' : Value} (hx : RepS S ta x) (hx' : RepS S tb x') (h : sem43 ta tb c fl r = some b) :
    Calls Try.prog 43 #[.agg #[.string na, .int .i64 ka, x, y], .agg #[.string nb, .int .i64 kb, x', y'], .agg #[.int .i64 c, .int .i64 fl, .string r]] w fun e w' => e = .returned (.bool b) ∧ Below w.heap.size w w' := by
  unfold sem43 at h
  split at h
  case h_2 => cases h
  rename_i l l'
  have hf := lst_inv hx
  have hf' := lst_inv hx'
  obtain ⟨a, ca, rfl⟩ := slice_inv hf
  obtain ⟨a', cb, rfl⟩ := slice_inv hf'
  split at h
  · cases h; rename_i hc
    exact Code.v43_low w na nb ka kb fl a a' y y' _ ca _ cb c r hc
  rename_i hc
  obtain ⟨c, rfl⟩ := Int.eq_ofNat_of_zero_le (a := c) (by omega)
  split at h
  · cases h; rename_i hn
    exact Code.v43_high w na nb ka kb fl a a' y y' _ ca _ cb c r hc hn
  rename_i hn
  split at h
  · cases h; rename_i hr
    simp only [not_or] at hr
    exact Code.v43_rule w na nb ka kb fl a a' y y' _ ca _ cb c r hc (by simpa using hn) (by simpa using hr.1) (by simpa using hr.2.1) (by simpa using hr.2.2)
  rename_i hr
  have hr : r = ⟨#[80]⟩ ∨ r = ⟨#[76]⟩ ∨ r = ⟨#[86]⟩ := by
    have := Classical.not_not.1 hr
    rcases this with e | e | e
    · exact .inl (data_ext (Array.toList_inj.1 (by rw [← toList_eq, e])))
    · exact .inr (.inl (data_ext (Array.toList_inj.1 (by rw [← toList_eq, e]))))
    · exact .inr (.inr (data_ext (Array.toList_inj.1 (by rw [← toList_eq, e]))))
  have hn := Classical.not_not.1 hn
  split at h
  case h_2 => cases h
  rename_i nm b1 mn b3 fs a5 a6 a7 nm' e1 e2 e3 rs key e6 e7 hj hj'
  obtain ⟨ga, oa, ca', e, hga, hca⟩ := RepF.row hW hf hj
  obtain ⟨gb, ob, cb', e', hgb, hcb⟩ := RepF.row hW hf' hj'
  cases e; cases e'
  obtain ⟨⟨ha0, ha1, ha2, ha3⟩, ⟨ha5, ha6, ha7⟩, u, ha4, hu⟩ := ty_cells hca
  obtain ⟨⟨hb0, hb1, hb2, hb3⟩, ⟨hb5, hb6, hb7⟩, u', hb4, hu'⟩ := ty_cells hcb
  have hm : (0 : Int) < (l'.length : Int) := by
    have := (List.getElem?_eq_some_iff.1 hj').1
    omega
  obtain ⟨xf, pc, rfl⟩ := slice_inv hu
  obtain ⟨xr, qc, rfl⟩ := slice_inv hu'
  simp only [List.length_cons, List.length_nil, Nat.zero_mul, Nat.add_zero, Int.toNat_natCast, Nat.zero_add, Nat.reduceAdd] at ha0 ha1 ha2 ha3 ha4 ha5 ha6 ha7 hb0 hb1 hb2 hb3 hb4 hb5 hb6 hb7
  split at h
  · cases h; rename_i hfl
    rcases hr with rfl | rfl | rfl
    · exact Code.v43_neg_p (w := w) (hc := hc) (hn := hn) (hm := hm) (ha0 := ha0) (ha1 := ha1) (ha2 := ha2) (ha3 := ha3) (ha4 := ha4) (ha5 := ha5) (ha6 := ha6) (ha7 := ha7) (hb0 := hb0) (hb1 := hb1) (hb2 := hb2) (hb3 := hb3) (hb4 := hb4) (hb5 := hb5) (hb6 := hb6) (hb7 := hb7) (hga := hga) (hgb := hgb) (hfl := hfl) (na := na) (nb := nb) (ka := ka) (kb := kb) (sa := y) (sb := y') (ca := ca) (cb := cb)
    · exact Code.v43_neg_l (w := w) (hc := hc) (hn := hn) (hm := hm) (ha0 := ha0) (ha1 := ha1) (ha2 := ha2) (ha3 := ha3) (ha4 := ha4) (ha5 := ha5) (ha6 := ha6) (ha7 := ha7) (hb0 := hb0) (hb1 := hb1) (hb2 := hb2) (hb3 := hb3) (hb4 := hb4) (hb5 := hb5) (hb6 := hb6) (hb7 := hb7) (hga := hga) (hgb := hgb) (hfl := hfl) (na := na) (nb := nb) (ka := ka) (kb := kb) (sa := y) (sb := y') (ca := ca) (cb := cb)
    · exact Code.v43_neg_v (w := w) (hc := hc) (hn := hn) (hm := hm) (ha0 := ha0) (ha1 := ha1) (ha2 := ha2) (ha3 := ha3) (ha4 := ha4) (ha5 := ha5) (ha6 := ha6) (ha7 := ha7) (hb0 := hb0) (hb1 := hb1) (hb2 := hb2) (hb3 := hb3) (hb4 := hb4) (hb5 := hb5) (hb6 := hb6) (hb7 := hb7) (hga := hga) (hgb := hgb) (hfl := hfl) (na := na) (nb := nb) (ka := ka) (kb := kb) (sa := y) (sb := y') (ca := ca) (cb := cb)
  rename_i hfl
  obtain ⟨fl, rfl⟩ := Int.eq_ofNat_of_zero_le (a := fl) (by omega)
  split at h
  · cases h; rename_i hfl
    rcases hr with rfl | rfl | rfl
    · exact Code.v43_far_p (w := w) (hc := hc) (hn := hn) (hm := hm) (ha0 := ha0) (ha1 := ha1) (ha2 := ha2) (ha3 := ha3) (ha4 := ha4) (ha5 := ha5) (ha6 := ha6) (ha7 := ha7) (hb0 := hb0) (hb1 := hb1) (hb2 := hb2) (hb3 := hb3) (hb4 := hb4) (hb5 := hb5) (hb6 := hb6) (hb7 := hb7) (hga := hga) (hgb := hgb) (hfl := hfl) (na := na) (nb := nb) (ka := ka) (kb := kb) (sa := y) (sb := y') (ca := ca) (cb := cb)
    · exact Code.v43_far_l (w := w) (hc := hc) (hn := hn) (hm := hm) (ha0 := ha0) (ha1 := ha1) (ha2 := ha2) (ha3 := ha3) (ha4 := ha4) (ha5 := ha5) (ha6 := ha6) (ha7 := ha7) (hb0 := hb0) (hb1 := hb1) (hb2 := hb2) (hb3 := hb3) (hb4 := hb4) (hb5 := hb5) (hb6 := hb6) (hb7 := hb7) (hga := hga) (hgb := hgb) (hfl := hfl) (na := na) (nb := nb) (ka := ka) (kb := kb) (sa := y) (sb := y') (ca := ca) (cb := cb)
    · exact Code.v43_far_v (w := w) (hc := hc) (hn := hn) (hm := hm) (ha0 := ha0) (ha1 := ha1) (ha2 := ha2) (ha3 := ha3) (ha4 := ha4) (ha5 := ha5) (ha6 := ha6) (ha7 := ha7) (hb0 := hb0) (hb1 := hb1) (hb2 := hb2) (hb3 := hb3) (hb4 := hb4) (hb5 := hb5) (hb6 := hb6) (hb7 := hb7) (hga := hga) (hgb := hgb) (hfl := hfl) (na := na) (nb := nb) (ka := ka) (kb := kb) (sa := y) (sb := y') (ca := ca) (cb := cb)
  rename_i hfl
  have hfl := Classical.not_not.1 hfl
  split at h
  · cases h
  rename_i hky
  obtain ⟨key, rfl⟩ := Int.eq_ofNat_of_zero_le (a := key) (by omega)
  split at h
  case h_2 => cases h
  rename_i fn fa fb rn ra rb hj2 hj3
  obtain ⟨gf, uf, pc', e, hgf, hcf⟩ := RepF.row hW hu hj2
  obtain ⟨gr, ur, qc', e', hgr, hcr⟩ := RepF.row hW hu' hj3
  cases e; cases e'
  obtain ⟨hf0, hf1, hf2⟩ := fd_cells hcf
  obtain ⟨hr0, hr1, hr2⟩ := fd_cells hcr
  have hky : (key : Int) < (rs.length : Int) := by
    have := (List.getElem?_eq_some_iff.1 hj3).1
    simp only [Int.toNat_natCast] at this
    omega
  simp only [List.length_cons, List.length_nil, Nat.zero_mul, Nat.add_zero, Int.toNat_natCast, Nat.zero_add, Nat.reduceAdd] at hf0 hf1 hf2 hr0 hr1 hr2
  have hs : IntKind.i64.wrap (fa + fb) = wrap64 (fa + fb) := IntWalk.i64_left _
  split at h
  · cases h; rename_i h2
    rcases hr with rfl | rfl | rfl
    · exact Code.v43_fit_p (w := w) (hc := hc) (hn := hn) (hm := hm) (ha0 := ha0) (ha1 := ha1) (ha2 := ha2) (ha3 := ha3) (ha4 := ha4) (ha5 := ha5) (ha6 := ha6) (ha7 := ha7) (hb0 := hb0) (hb1 := hb1) (hb2 := hb2) (hb3 := hb3) (hb4 := hb4) (hb5 := hb5) (hb6 := hb6) (hb7 := hb7) (hga := hga) (hgb := hgb) (hf0 := hf0) (hf1 := hf1) (hf2 := hf2) (hr0 := hr0) (hr1 := hr1) (hr2 := hr2) (hgf := hgf) (hgr := hgr) (hfl := hfl) (hky := hky) (hs := hs) (hs2 := rfl) (h2 := h2) (na := na) (nb := nb) (ka := ka) (kb := kb) (sa := y) (sb := y') (ca := ca) (cb := cb)
    · exact Code.v43_fit_l (w := w) (hc := hc) (hn := hn) (hm := hm) (ha0 := ha0) (ha1 := ha1) (ha2 := ha2) (ha3 := ha3) (ha4 := ha4) (ha5 := ha5) (ha6 := ha6) (ha7 := ha7) (hb0 := hb0) (hb1 := hb1) (hb2 := hb2) (hb3 := hb3) (hb4 := hb4) (hb5 := hb5) (hb6 := hb6) (hb7 := hb7) (hga := hga) (hgb := hgb) (hf0 := hf0) (hf1 := hf1) (hf2 := hf2) (hr0 := hr0) (hr1 := hr1) (hr2 := hr2) (hgf := hgf) (hgr := hgr) (hfl := hfl) (hky := hky) (hs := hs) (hs2 := rfl) (h2 := h2) (na := na) (nb := nb) (ka := ka) (kb := kb) (sa := y) (sb := y') (ca := ca) (cb := cb)
    · exact Code.v43_fit_v (w := w) (hc := hc) (hn := hn) (hm := hm) (ha0 := ha0) (ha1 := ha1) (ha2 := ha2) (ha3 := ha3) (ha4 := ha4) (ha5 := ha5) (ha6 := ha6) (ha7 := ha7) (hb0 := hb0) (hb1 := hb1) (hb2 := hb2) (hb3 := hb3) (hb4 := hb4) (hb5 := hb5) (hb6 := hb6) (hb7 := hb7) (hga := hga) (hgb := hgb) (hf0 := hf0) (hf1 := hf1) (hf2 := hf2) (hr0 := hr0) (hr1 := hr1) (hr2 := hr2) (hgf := hgf) (hgr := hgr) (hfl := hfl) (hky := hky) (hs := hs) (hs2 := rfl) (h2 := h2) (na := na) (nb := nb) (ka := ka) (kb := kb) (sa := y) (sb := y') (ca := ca) (cb := cb)
  · cases h; rename_i h2
    rcases hr with rfl | rfl | rfl
    · exact Code.v43_not_p (w := w) (hc := hc) (hn := hn) (hm := hm) (ha0 := ha0) (ha1 := ha1) (ha2 := ha2) (ha3 := ha3) (ha4 := ha4) (ha5 := ha5) (ha6 := ha6) (ha7 := ha7) (hb0 := hb0) (hb1 := hb1) (hb2 := hb2) (hb3 := hb3) (hb4 := hb4) (hb5 := hb5) (hb6 := hb6) (hb7 := hb7) (hga := hga) (hgb := hgb) (hf0 := hf0) (hf1 := hf1) (hf2 := hf2) (hr0 := hr0) (hr1 := hr1) (hr2 := hr2) (hgf := hgf) (hgr := hgr) (hfl := hfl) (hky := hky) (hs := hs) (hs2 := rfl) (h2 := h2) (h3 := Int.not_le.1 h2) (h4 := decide_eq_false h2) (na := na) (nb := nb) (ka := ka) (kb := kb) (sa := y) (sb := y') (ca := ca) (cb := cb)
    · exact Code.v43_not_l (w := w) (hc := hc) (hn := hn) (hm := hm) (ha0 := ha0) (ha1 := ha1) (ha2 := ha2) (ha3 := ha3) (ha4 := ha4) (ha5 := ha5) (ha6 := ha6) (ha7 := ha7) (hb0 := hb0) (hb1 := hb1) (hb2 := hb2) (hb3 := hb3) (hb4 := hb4) (hb5 := hb5) (hb6 := hb6) (hb7 := hb7) (hga := hga) (hgb := hgb) (hf0 := hf0) (hf1 := hf1) (hf2 := hf2) (hr0 := hr0) (hr1 := hr1) (hr2 := hr2) (hgf := hgf) (hgr := hgr) (hfl := hfl) (hky := hky) (hs := hs) (hs2 := rfl) (h2 := h2) (h3 := Int.not_le.1 h2) (h4 := decide_eq_false h2) (na := na) (nb := nb) (ka := ka) (kb := kb) (sa := y) (sb := y') (ca := ca) (cb := cb)
    · exact Code.v43_not_v (w := w) (hc := hc) (hn := hn) (hm := hm) (ha0 := ha0) (ha1 := ha1) (ha2 := ha2) (ha3 := ha3) (ha4 := ha4) (ha5 := ha5) (ha6 := ha6) (ha7 := ha7) (hb0 := hb0) (hb1 := hb1) (hb2 := hb2) (hb3 := hb3) (hb4 := hb4) (hb5 := hb5) (hb6 := hb6) (hb7 := hb7) (hga := hga) (hgb := hgb) (hf0 := hf0) (hf1 := hf1) (hf2 := hf2) (hr0 := hr0) (hr1 := hr1) (hr2 := hr2) (hgf := hgf) (hgr := hgr) (hfl := hfl) (hky := hky) (hs := hs) (hs2 := rfl) (h2 := h2) (h3 := Int.not_le.1 h2) (h4 := decide_eq_false h2) (na := na) (nb := nb) (ka := ka) (kb := kb) (sa := y) (sb := y') (ca := ca) (cb := cb)
end Go.Proofs.Ytbchmbddcdionaa.Ev

/- logic: valid as a function held by a proof of its own. -/
set_option linter.unusedSimpArgs false
set_option linter.unusedVariables false
namespace Go.Proofs.Ytbchmbddcdionaa.Ev
open Go Go.RowKit

theorem user43 {c : CFn} (hb : c.body = .user p43) (hcl : c.closed = false) (hsp : c.split = false) (hres : c.res = [.t 0]) : UserOk Try.prog 43 c where
  fn := ⟨Try.f43, Try.func43, by kernel_rfl, by kernel_rfl⟩
  user := ⟨p43, hb⟩
  plain := ⟨hcl, hsp⟩
  res := ⟨1, by rw [hres]; rfl, by
    intro p hp args H q hq
    rw [hb] at hp; cases hp
    unfold p43 at hq
    split at hq
    · cases hs : sem43 _ _ _ _ _ with
      | none => rw [hs] at hq; cases hq
      | some b => rw [hs] at hq; cases hq; rfl
    · cases hq⟩
  ok := by
    intro p hp args H vs' H' h S w B vs hS hW hl hr
    rw [hb] at hp; cases hp
    unfold p43 at h
    split at h
    case h_2 => cases h
    cases hs : sem43 _ _ _ _ _ with
    | none => rw [hs] at h; cases h
    | some b =>
      rw [hs] at h; cases h
      match vs, hl with
      | [v0, v1, v2], _ =>
        obtain ⟨x, y, rfl, hx⟩ := base_inv (hr 0 _ _ rfl rfl)
        obtain ⟨x', y', rfl, hx'⟩ := base_inv (hr 1 _ _ rfl rfl)
        have h2 := link_inv (hr 2 _ _ rfl rfl)
        subst h2
        refine (calls43 hW hx hx' hs).mono ?_
        rintro e w' ⟨rfl, hB⟩
        exact ⟨_, S, rfl, hS, .one (.s (.frz (.bool b))), hW.same hB.size (fun g hg => hB.block g hg), Ext.refl S, .of hB hW.base⟩
end Go.Proofs.Ytbchmbddcdionaa.Ev

/- logic: isLink, held by the kit's walk. -/
set_option linter.unusedSimpArgs false
set_option linter.unusedVariables false
namespace Go.Proofs.Ytbchmbddcdionaa.Ev
open Go Go.RowKit

theorem calls45 {S : Sta} {w : World} {B : Nat} (hW : WRel S w B) {na nb r : ByteArray} {ka kb c fl : Int} {ta tb : AV} {b : Bool} {x y x' y' : Value} (hx : RepS S ta x) (hx' : RepS S tb x') (h : sem43 ta tb c fl r = some b) :
    Calls Try.prog 45 #[.agg #[.string na, .int .i64 ka, x, y], .agg #[.string nb, .int .i64 kb, x', y'], .agg #[.int .i64 c, .int .i64 fl, .string r]] w fun e w' => e = .returned (.bool b) ∧ Below w.heap.size w w' := by
  unfold sem43 at h
  split at h
  case h_2 => cases h
  rename_i l l'
  have hf := lst_inv hx
  have hf' := lst_inv hx'
  obtain ⟨a, ca, rfl⟩ := slice_inv hf
  obtain ⟨a', cb, rfl⟩ := slice_inv hf'
  split at h
  · cases h; rename_i hc
    exact Code.v45_low w na nb ka kb fl a a' y y' _ ca _ cb c r hc
  rename_i hc
  obtain ⟨c, rfl⟩ := Int.eq_ofNat_of_zero_le (a := c) (by omega)
  split at h
  · cases h; rename_i hn
    exact Code.v45_high w na nb ka kb fl a a' y y' _ ca _ cb c r hc hn
  rename_i hn
  split at h
  · cases h; rename_i hr
    simp only [not_or] at hr
    exact Code.v45_rule w na nb ka kb fl a a' y y' _ ca _ cb c r hc (by simpa using hn) (by simpa using hr.1) (by simpa using hr.2.1) (by simpa using hr.2.2)
  rename_i hr
  have hr : r = ⟨#[80]⟩ ∨ r = ⟨#[76]⟩ ∨ r = ⟨#[86]⟩ := by
    have := Classical.not_not.1 hr
    rcases this with e | e | e
    · exact .inl (data_ext (Array.toList_inj.1 (by rw [← toList_eq, e])))
    · exact .inr (.inl (data_ext (Array.toList_inj.1 (by rw [← toList_eq, e]))))
    · exact .inr (.inr (data_ext (Array.toList_inj.1 (by rw [← toList_eq, e]))))
  have hn := Classical.not_not.1 hn
  split at h
  case h_2 => cases h
  rename_i nm b1 mn b3 fs a5 a6 a7 nm' e1 e2 e3 rs key e6 e7 hj hj'
  obtain ⟨ga, oa, ca', e, hga, hca⟩ := RepF.row hW hf hj
  obtain ⟨gb, ob, cb', e', hgb, hcb⟩ := RepF.row hW hf' hj'
  cases e; cases e'
  obtain ⟨⟨ha0, ha1, ha2, ha3⟩, ⟨ha5, ha6, ha7⟩, u, ha4, hu⟩ := ty_cells hca
  obtain ⟨⟨hb0, hb1, hb2, hb3⟩, ⟨hb5, hb6, hb7⟩, u', hb4, hu'⟩ := ty_cells hcb
  have hm : (0 : Int) < (l'.length : Int) := by
    have := (List.getElem?_eq_some_iff.1 hj').1
    omega
  obtain ⟨xf, pc, rfl⟩ := slice_inv hu
  obtain ⟨xr, qc, rfl⟩ := slice_inv hu'
  simp only [List.length_cons, List.length_nil, Nat.zero_mul, Nat.add_zero, Int.toNat_natCast, Nat.zero_add, Nat.reduceAdd] at ha0 ha1 ha2 ha3 ha4 ha5 ha6 ha7 hb0 hb1 hb2 hb3 hb4 hb5 hb6 hb7
  split at h
  · cases h; rename_i hfl
    rcases hr with rfl | rfl | rfl
    · exact Code.v45_neg_p (w := w) (hc := hc) (hn := hn) (hm := hm) (ha0 := ha0) (ha1 := ha1) (ha2 := ha2) (ha3 := ha3) (ha4 := ha4) (ha5 := ha5) (ha6 := ha6) (ha7 := ha7) (hb0 := hb0) (hb1 := hb1) (hb2 := hb2) (hb3 := hb3) (hb4 := hb4) (hb5 := hb5) (hb6 := hb6) (hb7 := hb7) (hga := hga) (hgb := hgb) (hfl := hfl) (na := na) (nb := nb) (ka := ka) (kb := kb) (sa := y) (sb := y') (ca := ca) (cb := cb)
    · exact Code.v45_neg_l (w := w) (hc := hc) (hn := hn) (hm := hm) (ha0 := ha0) (ha1 := ha1) (ha2 := ha2) (ha3 := ha3) (ha4 := ha4) (ha5 := ha5) (ha6 := ha6) (ha7 := ha7) (hb0 := hb0) (hb1 := hb1) (hb2 := hb2) (hb3 := hb3) (hb4 := hb4) (hb5 := hb5) (hb6 := hb6) (hb7 := hb7) (hga := hga) (hgb := hgb) (hfl := hfl) (na := na) (nb := nb) (ka := ka) (kb := kb) (sa := y) (sb := y') (ca := ca) (cb := cb)
    · exact Code.v45_neg_v (w := w) (hc := hc) (hn := hn) (hm := hm) (ha0 := ha0) (ha1 := ha1) (ha2 := ha2) (ha3 := ha3) (ha4 := ha4) (ha5 := ha5) (ha6 := ha6) (ha7 := ha7) (hb0 := hb0) (hb1 := hb1) (hb2 := hb2) (hb3 := hb3) (hb4 := hb4) (hb5 := hb5) (hb6 := hb6) (hb7 := hb7) (hga := hga) (hgb := hgb) (hfl := hfl) (na := na) (nb := nb) (ka := ka) (kb := kb) (sa := y) (sb := y') (ca := ca) (cb := cb)
  rename_i hfl
  obtain ⟨fl, rfl⟩ := Int.eq_ofNat_of_zero_le (a := fl) (by omega)
  split at h
  · cases h; rename_i hfl
    rcases hr with rfl | rfl | rfl
    · exact Code.v45_far_p (w := w) (hc := hc) (hn := hn) (hm := hm) (ha0 := ha0) (ha1 := ha1) (ha2 := ha2) (ha3 := ha3) (ha4 := ha4) (ha5 := ha5) (ha6 := ha6) (ha7 := ha7) (hb0 := hb0) (hb1 := hb1) (hb2 := hb2) (hb3 := hb3) (hb4 := hb4) (hb5 := hb5) (hb6 := hb6) (hb7 := hb7) (hga := hga) (hgb := hgb) (hfl := hfl) (na := na) (nb := nb) (ka := ka) (kb := kb) (sa := y) (sb := y') (ca := ca) (cb := cb)
    · exact Code.v45_far_l (w := w) (hc := hc) (hn := hn) (hm := hm) (ha0 := ha0) (ha1 := ha1) (ha2 := ha2) (ha3 := ha3) (ha4 := ha4) (ha5 := ha5) (ha6 := ha6) (ha7 := ha7) (hb0 := hb0) (hb1 := hb1) (hb2 := hb2) (hb3 := hb3) (hb4 := hb4) (hb5 := hb5) (hb6 := hb6) (hb7 := hb7) (hga := hga) (hgb := hgb) (hfl := hfl) (na := na) (nb := nb) (ka := ka) (kb := kb) (sa := y) (sb := y') (ca := ca) (cb := cb)
    · exact Code.v45_far_v (w := w) (hc := hc) (hn := hn) (hm := hm) (ha0 := ha0) (ha1 := ha1) (ha2 := ha2) (ha3 := ha3) (ha4 := ha4) (ha5 := ha5) (ha6 := ha6) (ha7 := ha7) (hb0 := hb0) (hb1 := hb1) (hb2 := hb2) (hb3 := hb3) (hb4 := hb4) (hb5 := hb5) (hb6 := hb6) (hb7 := hb7) (hga := hga) (hgb := hgb) (hfl := hfl) (na := na) (nb := nb) (ka := ka) (kb := kb) (sa := y) (sb := y') (ca := ca) (cb := cb)
  rename_i hfl
  have hfl := Classical.not_not.1 hfl
  split at h
  · cases h
  rename_i hky
  obtain ⟨key, rfl⟩ := Int.eq_ofNat_of_zero_le (a := key) (by omega)
  split at h
  case h_2 => cases h
  rename_i fn fa fb rn ra rb hj2 hj3
  obtain ⟨gf, uf, pc', e, hgf, hcf⟩ := RepF.row hW hu hj2
  obtain ⟨gr, ur, qc', e', hgr, hcr⟩ := RepF.row hW hu' hj3
  cases e; cases e'
  obtain ⟨hf0, hf1, hf2⟩ := fd_cells hcf
  obtain ⟨hr0, hr1, hr2⟩ := fd_cells hcr
  have hky : (key : Int) < (rs.length : Int) := by
    have := (List.getElem?_eq_some_iff.1 hj3).1
    simp only [Int.toNat_natCast] at this
    omega
  simp only [List.length_cons, List.length_nil, Nat.zero_mul, Nat.add_zero, Int.toNat_natCast, Nat.zero_add, Nat.reduceAdd] at hf0 hf1 hf2 hr0 hr1 hr2
  have hs : IntKind.i64.wrap (fa + fb) = wrap64 (fa + fb) := IntWalk.i64_left _
  split at h
  · cases h; rename_i h2
    rcases hr with rfl | rfl | rfl
    · exact Code.v45_fit_p (w := w) (hc := hc) (hn := hn) (hm := hm) (ha0 := ha0) (ha1 := ha1) (ha2 := ha2) (ha3 := ha3) (ha4 := ha4) (ha5 := ha5) (ha6 := ha6) (ha7 := ha7) (hb0 := hb0) (hb1 := hb1) (hb2 := hb2) (hb3 := hb3) (hb4 := hb4) (hb5 := hb5) (hb6 := hb6) (hb7 := hb7) (hga := hga) (hgb := hgb) (hf0 := hf0) (hf1 := hf1) (hf2 := hf2) (hr0 := hr0) (hr1 := hr1) (hr2 := hr2) (hgf := hgf) (hgr := hgr) (hfl := hfl) (hky := hky) (hs := hs) (hs2 := rfl) (h2 := h2) (na := na) (nb := nb) (ka := ka) (kb := kb) (sa := y) (sb := y') (ca := ca) (cb := cb)
    · exact Code.v45_fit_l (w := w) (hc := hc) (hn := hn) (hm := hm) (ha0 := ha0) (ha1 := ha1) (ha2 := ha2) (ha3 := ha3) (ha4 := ha4) (ha5 := ha5) (ha6 := ha6) (ha7 := ha7) (hb0 := hb0) (hb1 := hb1) (hb2 := hb2) (hb3 := hb3) (hb4 := hb4) (hb5 := hb5) (hb6 := hb6) (hb7 := hb7) (hga := hga) (hgb := hgb) (hf0 := hf0) (hf1 := hf1) (hf2 := hf2) (hr0 := hr0) (hr1 := hr1) (hr2 := hr2) (hgf := hgf) (hgr := hgr) (hfl := hfl) (hky := hky) (hs := hs) (hs2 := rfl) (h2 := h2) (na := na) (nb := nb) (ka := ka) (kb := kb) (sa := y) (sb := y') (ca := ca) (cb := cb)
    · exact Code.v45_fit_v (w := w) (hc := hc) (hn := hn) (hm := hm) (ha0 := ha0) (ha1 := ha1) (ha2 := ha2) (ha3 := ha3) (ha4 := ha4) (ha5 := ha5) (ha6 := ha6) (ha7 := ha7) (hb0 := hb0) (hb1 := hb1) (hb2 := hb2) (hb3 := hb3) (hb4 := hb4) (hb5 := hb5) (hb6 := hb6) (hb7 := hb7) (hga := hga) (hgb := hgb) (hf0 := hf0) (hf1 := hf1) (hf2 := hf2) (hr0 := hr0) (hr1 := hr1) (hr2 := hr2) (hgf := hgf) (hgr := hgr) (hfl := hfl) (hky := hky) (hs := hs) (hs2 := rfl) (h2 := h2) (na := na) (nb := nb) (ka := ka) (kb := kb) (sa := y) (sb := y') (ca := ca) (cb := cb)
  · cases h; rename_i h2
    rcases hr with rfl | rfl | rfl
    · exact Code.v45_not_p (w := w) (hc := hc) (hn := hn) (hm := hm) (ha0 := ha0) (ha1 := ha1) (ha2 := ha2) (ha3 := ha3) (ha4 := ha4) (ha5 := ha5) (ha6 := ha6) (ha7 := ha7) (hb0 := hb0) (hb1 := hb1) (hb2 := hb2) (hb3 := hb3) (hb4 := hb4) (hb5 := hb5) (hb6 := hb6) (hb7 := hb7) (hga := hga) (hgb := hgb) (hf0 := hf0) (hf1 := hf1) (hf2 := hf2) (hr0 := hr0) (hr1 := hr1) (hr2 := hr2) (hgf := hgf) (hgr := hgr) (hfl := hfl) (hky := hky) (hs := hs) (hs2 := rfl) (h2 := h2) (h3 := Int.not_le.1 h2) (h4 := decide_eq_false h2) (na := na) (nb := nb) (ka := ka) (kb := kb) (sa := y) (sb := y') (ca := ca) (cb := cb)
    · exact Code.v45_not_l (w := w) (hc := hc) (hn := hn) (hm := hm) (ha0 := ha0) (ha1 := ha1) (ha2 := ha2) (ha3 := ha3) (ha4 := ha4) (ha5 := ha5) (ha6 := ha6) (ha7 := ha7) (hb0 := hb0) (hb1 := hb1) (hb2 := hb2) (hb3 := hb3) (hb4 := hb4) (hb5 := hb5) (hb6 := hb6) (hb7 := hb7) (hga := hga) (hgb := hgb) (hf0 := hf0) (hf1 := hf1) (hf2 := hf2) (hr0 := hr0) (hr1 := hr1) (hr2 := hr2) (hgf := hgf) (hgr := hgr) (hfl := hfl) (hky := hky) (hs := hs) (hs2 := rfl) (h2 := h2) (h3 := Int.not_le.1 h2) (h4 := decide_eq_false h2) (na := na) (nb := nb) (ka := ka) (kb := kb) (sa := y) (sb := y') (ca := ca) (cb := cb)
    · exact Code.v45_not_v (w := w) (hc := hc) (hn := hn) (hm := hm) (ha0 := ha0) (ha1 := ha1) (ha2 := ha2) (ha3 := ha3) (ha4 := ha4) (ha5 := ha5) (ha6 := ha6) (ha7 := ha7) (hb0 := hb0) (hb1 := hb1) (hb2 := hb2) (hb3 := hb3) (hb4 := hb4) (hb5 := hb5) (hb6 := hb6) (hb7 := hb7) (hga := hga) (hgb := hgb) (hf0 := hf0) (hf1 := hf1) (hf2 := hf2) (hr0 := hr0) (hr1 := hr1) (hr2 := hr2) (hgf := hgf) (hgr := hgr) (hfl := hfl) (hky := hky) (hs := hs) (hs2 := rfl) (h2 := h2) (h3 := Int.not_le.1 h2) (h4 := decide_eq_false h2) (na := na) (nb := nb) (ka := ka) (kb := kb) (sa := y) (sb := y') (ca := ca) (cb := cb)
end Go.Proofs.Ytbchmbddcdionaa.Ev

/- logic: isLink as a function held by a proof of its own. -/
set_option linter.unusedSimpArgs false
set_option linter.unusedVariables false
namespace Go.Proofs.Ytbchmbddcdionaa.Ev
open Go Go.RowKit

theorem user45 {c : CFn} (hb : c.body = .user p43) (hcl : c.closed = false) (hsp : c.split = false) (hres : c.res = [.t 0]) : UserOk Try.prog 45 c where
  fn := ⟨Try.f45, Try.func45, by kernel_rfl, by kernel_rfl⟩
  user := ⟨p43, hb⟩
  plain := ⟨hcl, hsp⟩
  res := ⟨1, by rw [hres]; rfl, by
    intro p hp args H q hq
    rw [hb] at hp; cases hp
    unfold p43 at hq
    split at hq
    · cases hs : sem43 _ _ _ _ _ with
      | none => rw [hs] at hq; cases hq
      | some b => rw [hs] at hq; cases hq; rfl
    · cases hq⟩
  ok := by
    intro p hp args H vs' H' h S w B vs hS hW hl hr
    rw [hb] at hp; cases hp
    unfold p43 at h
    split at h
    case h_2 => cases h
    cases hs : sem43 _ _ _ _ _ with
    | none => rw [hs] at h; cases h
    | some b =>
      rw [hs] at h; cases h
      match vs, hl with
      | [v0, v1, v2], _ =>
        obtain ⟨x, y, rfl, hx⟩ := base_inv (hr 0 _ _ rfl rfl)
        obtain ⟨x', y', rfl, hx'⟩ := base_inv (hr 1 _ _ rfl rfl)
        have h2 := link_inv (hr 2 _ _ rfl rfl)
        subst h2
        refine (calls45 hW hx hx' hs).mono ?_
        rintro e w' ⟨rfl, hB⟩
        exact ⟨_, S, rfl, hS, .one (.s (.frz (.bool b))), hW.same hB.size (fun g hg => hB.block g hg), Ext.refl S, .of hB hW.base⟩
end Go.Proofs.Ytbchmbddcdionaa.Ev

/- slices.Insert as a function held by a proof of its own. -/
set_option linter.unusedSimpArgs false
set_option linter.unusedVariables false
namespace Go.Proofs.Ytbchmbddcdionaa.Code
open Go Go.Proofs Go.RowKit Go.Proofs.Ytbchmbddcdionaa.Ev

theorem seg_two (l : List Value) (a n : Nat) (h : a ≤ n) : (l.drop a).take (n - a) = (l.take n).drop a := by rw [List.drop_take]
theorem over_list (A : Array Value) (o : Nat) (news : List Value) : (over A o news).toList = A.toList.take o ++ news ++ A.toList.drop (o + news.length) := by simp [over]
/-- what stands in a row's block first -/
theorem one_row {S : Sta} {w : World} {B b : Nat} {k : Blk} {g rc : Nat} {cur : Array Value} (hB : BlkAt S w B b k g rc cur) {row : List AV} (h : k.els[0]? = some row) : RowVals S [row] k.sz (part cur 0 k.sz) ∧ k.sz ≤ cur.size := by
  have hl := (List.getElem?_eq_some_iff.1 h).1
  have hv := hB.vals.take (n := 1) (by omega)
  have ht : k.els.take 1 = [row] := by
    cases he : k.els with
    | nil => rw [he] at h; simp at h
    | cons x xs => rw [he] at h; simp at h; subst h; rfl
  have hm := Nat.mul_le_mul_right k.sz (show 1 ≤ rc by have := hB.le; omega)
  rw [Nat.one_mul] at hm
  have hm2 := Nat.mul_le_mul_right k.sz (show 1 ≤ k.els.length by omega)
  rw [Nat.one_mul] at hm2
  rw [ht, Nat.one_mul, List.take_take, Nat.min_eq_left hm2] at hv
  exact ⟨by simpa [part] using hv, by rw [hB.size]; exact hm⟩
set_option maxRecDepth 100000 in
theorem ins_ok {args : List AV} {H : Heap} {vs' : List AV} {H' : Heap} (h : pIns 2 44 24 args H = some (vs', H')) {S : Sta} {w : World} {B : Nat} {vs : List Value} (hS : S.H = H) (hW : WRel S w B) (hl : args.length = vs.length)
    (hr : ∀ (i : Nat) (x : AV) (v : Value), args[i]? = some x → vs[i]? = some v → RepV S x v) :
    Calls Try.prog 84 vs.toArray w fun e w' => ∃ v S', e = .returned v ∧ S'.H = H' ∧ RepV S' (packRes vs') v ∧ WRel S' w' B ∧ Ext S S' ∧ Bel B w w' := by
  subst hS
  rcases pIns_some h with ⟨b, v, n, i, bv, vv, k, kv, row, rfl, hk, hkv, hrow, hty, htv, hne, hn, hi0, hin, hb1, hb2, rfl, rfl⟩ | ⟨a, bv, vv, kv, row, rfl, ha, hkv, hrow, htv, rfl, rfl⟩
  · match vs, hl with
    | [v0, v1, v2], _ =>
      obtain ⟨d1, d2, d3, d4⟩ := curBlk_spec hk
      obtain ⟨c1, c2, c3, c4⟩ := curBlk_spec hkv
      obtain ⟨g, rc, cur, hB⟩ := hW.blk b k d1 d2
      obtain ⟨gv, rcv, curv, hBv⟩ := hW.blk bv kv c1 c2
      obtain ⟨ad, cap, k', rfl, hk', _, hcap, _, hat⟩ := rep_ref (hr 0 _ _ rfl rfl)
      rw [d1] at hk'; cases hk'
      obtain ⟨_, hat⟩ := hat d2 d3 d4
      obtain ⟨g', rc', hm, rfl, hrc⟩ := hat (.inr rfl)
      rw [hB.mu] at hm; cases hm
      rw [Nat.zero_add] at hrc; subst hrc
      have hv1 := rep_int (hr 1 _ _ rfl rfl)
      subst hv1
      obtain ⟨adv, capv, kv', rfl, hkv', _, hcapv, _, hatv⟩ := rep_ref (hr 2 _ _ rfl rfl)
      rw [c1] at hkv'; cases hkv'
      obtain ⟨_, hatv⟩ := hatv c2 c3 c4
      obtain ⟨gv', rcv', hmv, rfl, hrcv⟩ := hatv (.inr rfl)
      rw [hBv.mu] at hmv; cases hmv
      have hng : gv ≠ g := fun e => hne (hW.inj b bv k kv g cap _ d1 d2 c1 c2 hB.mu (by rw [hBv.mu, e]))
      have hh := hB.heap
      have hhv := hBv.heap
      have hsz := hB.size
      have hmax := hB.max
      have hbase := hB.base
      have hle := hB.le
      obtain ⟨hrow1, hszv⟩ := one_row hBv hrow
      have hKv := hB.vals.take hn
      rw [List.take_take, Nat.min_eq_left (Nat.mul_le_mul_right _ hn)] at hKv
      rw [c4] at hrow1 hszv
      rw [d4] at hsz hKv
      rw [hty] at hh
      rw [htv] at hhv
      simp only [Nat.zero_mul] at hh hhv ⊢
      obtain ⟨i, rfl⟩ : ∃ j : Nat, i = (j : Int) := ⟨i.toNat, by omega⟩
      have hil : i ≤ n := by omega
      rw [Int.toNat_natCast]
      have hKlen : (k.els.take n).length = n := by rw [List.length_take]; omega
      have hels : RowVals S ((k.els.take n).take i ++ row :: (k.els.take n).drop i) 2 ((cur.toList.take (n * 2)).take (i * 2) ++ (part curv 0 2 ++ (cur.toList.take (n * 2)).drop (i * 2))) :=
        (hKv.take (by rw [hKlen]; exact hil)).append (hrow1.append (hKv.drop i))
      have hlen : ((k.els.take n).take i ++ row :: (k.els.take n).drop i).length = n + 1 := by
        simp only [List.length_append, List.length_take, List.length_cons, List.length_drop]; omega
      have hone1 : ∀ v ∈ part cur (i * 2) ((n - i) * 2), v.oneCell' = true := by
        have := (hKv.drop i).one
        unfold part
        rw [show (n - i) * 2 = n * 2 - i * 2 by omega, seg_two _ _ _ (by omega)]
        exact this
      have hone2 := hrow1.one
      have hp1 : part cur (i * 2) ((n - i) * 2) = (cur.toList.take (n * 2)).drop (i * 2) := by
        unfold part
        rw [show (n - i) * 2 = n * 2 - i * 2 by omega, seg_two _ _ _ (by omega)]
      have hcl : cur.toList.length = cur.size := Array.length_toList
      have hl2 : (part curv 0 2).length = 2 := part_len (by omega)
      have hl1 : (part cur (i * 2) ((n - i) * 2)).length = (n - i) * 2 := part_len (by omega)
      have htt : (cur.toList.take (n * 2)).take (i * 2) = cur.toList.take (i * 2) := by rw [List.take_take, Nat.min_eq_left (by omega)]
      have hgw : g < w.heap.size := (Array.getElem?_eq_some_iff.1 hh).1
      have hws := hW.base
      have fin : ∀ (w' : World) (g' rc' : Nat) (cur' : Array Value) (rest : List Value), cur'.toList = ((cur.toList.take (n * 2)).take (i * 2) ++ (part curv 0 2 ++ (cur.toList.take (n * 2)).drop (i * 2))) ++ rest → cur'.size = rc' * 2 → n + 1 ≤ rc' → rc' ≤ maxLen → (g' = g ∨ w.heap.size ≤ g') →
          w'.heap[g']? = some (.cells cur' 44 (0, 0)) → (∀ x, x < w.heap.size → x ≠ g → w'.heap[x]? = w.heap[x]?) → Bel B w w' →
          ∃ v' S', Ending.returned (.slice (some ⟨g', 0, none⟩) (n + 1) rc') = .returned v' ∧ S'.H = S.H.set b { k with ver := v + 1, els := (k.els.take n).take i ++ row :: (k.els.take n).drop i } ∧ RepV S' (packRes [.ref b (v + 1) 2 0 (n + 1)]) v' ∧ WRel S' w' B ∧ Ext S S' ∧ Bel B w w' := by
        intro w' g' rc' cur' rest q1 q2 q3 q4 q5 q6 q7 q8
        obtain ⟨S', s1, s2, s3, s4, s5⟩ := ins_post (w' := w') hW d1 d2 hB _ _ (by rw [d4]; exact hels) g' rc' cur' rest q1 (by rw [d4]; exact q2) (by rw [hlen]; exact q3) q4 q5 (by rcases q5 with e | e <;> omega) (by rw [hty]; exact q6) q7 q8
        rw [d4, hlen, d3] at s2
        rw [d3] at s1
        exact ⟨_, S', rfl, s1, s2, s3, s4, s5⟩
      by_cases hroom : n + 1 ≤ cap
      · by_cases hie : i < n
        · have hC := ins_shift w g gv n cap i capv cur curv hie hroom (by unfold maxLen at hmax; omega) hng hh hhv hsz hszv hone1 hone2
          refine hC.mono ?_
          rintro e w' ⟨rfl, rfl⟩
          have hh1 : (w.drew.setRow g (over cur ((i + 1) * 2) (part cur (i * 2) ((n - i) * 2)))).heap[g]? = some (.cells (over cur ((i + 1) * 2) (part cur (i * 2) ((n - i) * 2))) 44 (0, 0)) := setRow_heap w.drew g cur _ 44 (0, 0) hh
          have ho1 : (over cur ((i + 1) * 2) (part cur (i * 2) ((n - i) * 2))).size = cur.size := over_size (by rw [hl1]; omega)
          refine fin _ g cap _ (cur.toList.drop ((n + 1) * 2)) ?_ (by rw [over_size (by rw [hl2, ho1]; omega), ho1, hsz]) hroom hmax (.inl rfl) (setRow_heap _ g _ _ 44 (0, 0) hh1) (fun x _ hx => ?_) ?_
          · rw [over_list, over_list, hl1, hl2, List.append_assoc, List.append_assoc, htt, ← hp1, List.take_append_of_le_length (by rw [List.length_take, hcl]; omega), List.take_take, Nat.min_eq_left (by omega),
              List.drop_append_of_le_length (by rw [List.length_take, hcl]; omega), List.drop_eq_nil_of_le (by rw [List.length_take, hcl]; omega), List.nil_append, show (i + 1) * 2 + (n - i) * 2 = (n + 1) * 2 by omega]
            simp only [List.append_assoc]
          · rw [setRow_other _ _ _ _ hx, setRow_other _ _ _ _ hx]; rfl
          · exact ((Bel.refl B w).drew.trans (below_setRow' hbase _)).trans (below_setRow' hbase _)
        · have hie : i = n := by omega
          subst hie
          have hC := ins_room w g gv i cap capv cur curv hroom (by unfold maxLen at hmax; omega) hh hhv hsz hszv hone2
          refine hC.mono ?_
          rintro e w' ⟨rfl, rfl⟩
          refine fin _ g cap _ (cur.toList.drop ((i + 1) * 2)) ?_ (by rw [over_size (by rw [hl2]; omega), hsz]) hroom hmax (.inl rfl) (setRow_heap w g cur _ 44 (0, 0) hh) (fun x _ hx => setRow_other _ _ _ _ hx) (below_setRow' hbase _)
          have hd : (cur.toList.take (i * 2)).drop (i * 2) = [] := List.drop_eq_nil_of_le (by rw [List.length_take]; omega)
          rw [over_list, hl2, htt, hd, List.append_nil, show i * 2 + 2 = (i + 1) * 2 by omega]
      · obtain ⟨i0, z, hi0, hi1, hi2, hz, hzc⟩ := ins_inf
        have hG := grownCap_ge w (n + 1) cap 44
        have hGm : grownCap w (n + 1) cap 44 ≤ maxLen := grownCap_le_maxLen w (n + 1) cap 44 (by unfold reach at hb2; simp only [maxLen]; omega)
        by_cases hie : i < n
        · obtain ⟨R, hRs, hRt, hC⟩ := ins_grow w g gv n cap i capv cur curv hie (by omega) (by omega) hb1 hb2 hh hhv hsz hszv hone1 hone2
          refine hC.mono ?_
          rintro e w' ⟨rfl, rfl⟩
          have hN : (w.alloc (.cells R 44)).drew.heap[w.heap.size]? = some (.cells R 44 (0, 0)) := heap_alloc_new w _
          have hN2 : ((w.alloc (.cells R 44)).drew.setRow w.heap.size (over R (i * 2) (part curv 0 2))).drew.heap[w.heap.size]? = some (.cells (over R (i * 2) (part curv 0 2)) 44 (0, 0)) := setRow_heap _ _ R _ 44 (0, 0) hN
          have hos : (over R (i * 2) (part curv 0 2)).size = R.size := over_size (by rw [hl2, hRs]; omega)
          have hRl : R.toList.length = R.size := Array.length_toList
          refine fin _ w.heap.size (grownCap w (n + 1) cap 44) _ ((over R (i * 2) (part curv 0 2)).toList.drop ((n + 1) * 2)) ?_ (by rw [over_size (by rw [hl1, hos, hRs]; omega), hos, hRs]) hG hGm (.inr (Nat.le_refl _)) (setRow_heap _ _ _ _ 44 (0, 0) hN2) (fun x hx _ => ?_) ?_
          · rw [over_list, hl1, show (i + 1) * 2 + (n - i) * 2 = (n + 1) * 2 by omega, htt, ← hp1]
            congr 1
            rw [over_list, hRt, hl2, List.take_append_of_le_length (by rw [List.length_append, hl2, part_len (by omega)]; omega), List.take_of_length_le (by rw [List.length_append, hl2, part_len (by omega)]; omega)]
            simp only [List.append_assoc]
            rfl
          · rw [setRow_other _ _ _ _ (by omega)]
            have h3 : ((w.alloc (.cells R 44)).drew.setRow w.heap.size (over R (i * 2) (part curv 0 2))).heap[x]? = (w.alloc (.cells R 44)).heap[x]? := setRow_other _ _ _ _ (by omega)
            have h4 : (w.alloc (.cells R 44)).heap[x]? = w.heap[x]? := by apply heap_alloc_old; exact hx
            exact h3.trans h4
          · have b1 : Bel B w (w.alloc (.cells R 44)).drew := ((Bel.refl B w).alloc hws _).drew
            exact ((b1.trans (below_setRow' hws _)).drew).trans (below_setRow' hws _)
        · have hie : i = n := by omega
          subst hie
          have hC := ins_tail w g gv i cap capv cur curv z (by rw [hi0]; exact hz) (by omega) (by omega) hb1 hb2 hh hhv hsz hszv
          refine hC.mono ?_
          rintro e w' ⟨rfl, rfl⟩
          have hl0 : (part cur 0 (i * 2)).length = i * 2 := part_len (by omega)
          refine fin _ w.heap.size (grownCap w (i + 1) cap 44) _ (Builtin.zeroCells z.cells (grownCap w (i + 1) cap 44 - (i + 1))).toList ?_ ?_ hG hGm (.inr (Nat.le_refl _)) (heap_alloc_new w.drew _) (fun x hx _ => ?_) ((Bel.refl B w).drew.alloc hws _)
          · rw [htt, List.drop_eq_nil_of_le (by rw [List.length_take, hcl]; omega), List.append_nil]
            simp [part]
          · simp only [Array.size_append, List.size_toArray, List.length_append, size_zeroCells, hzc, hl0, hl2]; omega
          · apply heap_alloc_old; exact hx
  · match vs, hl with
    | [v0, v1, v2], _ =>
      obtain ⟨c1, c2, c3, c4⟩ := curBlk_spec hkv
      obtain ⟨gv, rcv, curv, hBv⟩ := hW.blk bv kv c1 c2
      have hv0 : ∃ ad, v0 = .slice ad 0 0 := by
        rcases ha with rfl | rfl
        · exact ⟨none, rep_nils (hr 0 _ _ rfl rfl)⟩
        · exact rep_nil0 (hr 0 _ _ rfl rfl)
      obtain ⟨ad, rfl⟩ := hv0
      have hv1 := rep_int (hr 1 _ _ rfl rfl)
      subst hv1
      obtain ⟨adv, capv, kv', rfl, hkv', _, hcapv, _, hatv⟩ := rep_ref (hr 2 _ _ rfl rfl)
      rw [c1] at hkv'; cases hkv'
      obtain ⟨_, hatv⟩ := hatv c2 c3 c4
      obtain ⟨gv', rcv', hmv, rfl, hrcv⟩ := hatv (.inr rfl)
      rw [hBv.mu] at hmv; cases hmv
      have hhv := hBv.heap
      obtain ⟨hrow1, hszv⟩ := one_row hBv hrow
      rw [c4] at hrow1 hszv
      rw [htv] at hhv
      simp only [Nat.zero_mul] at hhv ⊢
      have hws := hW.base
      have hl2 : (part curv 0 2).length = 2 := part_len (by omega)
      obtain ⟨i0, z, hi0, hi1, hi2, hz, hzc⟩ := ins_inf
      have hG := grownCap_ge w 1 0 44
      have hGm : grownCap w 1 0 44 ≤ maxLen := grownCap_le_maxLen w 1 0 44 (by simp only [maxLen]; omega)
      refine (ins_none w ad gv capv curv z (by rw [hi0]; exact hz) hhv hszv).mono ?_
      rintro e w' ⟨rfl, rfl⟩
      obtain ⟨S', s1, s2, s3, s4, s5⟩ := hW.drew.push 44 2 (grownCap w 1 0 44) [row] ((part curv 0 2).toArray ++ Builtin.zeroCells z.cells (grownCap w 1 0 44 - 1))
        (by simp only [Array.size_append, List.size_toArray, size_zeroCells, hzc, hl2]; omega) (by simpa using hG) hGm hrow1.row
        (fun j c r x hj hc => by
          obtain ⟨u, hu, hru⟩ := hrow1.cell j c r x hj hc
          refine ⟨u, ?_, hru⟩
          rw [← Array.getElem?_toList, Array.toList_append, List.getElem?_append_left (by simpa using (List.getElem?_eq_some_iff.1 hu).1)]
          simpa using hu)
      refine ⟨_, S', rfl, s1, .one (.s (.ref _ _ _ _ _ _ _ ⟨0, true, 44, 2, [row]⟩ ?_ (Nat.le_refl _) hG rfl fun _ _ _ => ⟨by simp, fun _ => ⟨w.heap.size, grownCap w 1 0 44, ?_, by simp, by omega⟩⟩)), s5, s4, (Bel.refl B w).drew.alloc hws _⟩
      · rw [s1]; simp
      · rw [s2, ← hW.len]
        simp
theorem userIns {c : CFn} (hb : c.body = .user (pIns 2 44 24)) (hcl : c.closed = false) (hsp : c.split = false) (hres : c.res = [.t 0]) : UserOk Try.prog 84 c where
  fn := ⟨Try.f84, Try.func84, by kernel_rfl, by kernel_rfl⟩
  user := ⟨_, hb⟩
  plain := ⟨hcl, hsp⟩
  res := ⟨1, by rw [hres]; rfl, by
    intro p hp args H q hq
    rw [hb] at hp; cases hp
    rcases pIns_some (by rw [hq]) with ⟨_, _, _, _, _, _, _, _, _, _, _, _, _, _, _, _, _, _, _, _, _, h, _⟩ | ⟨_, _, _, _, _, _, _, _, _, _, h, _⟩ <;> rw [h] <;> rfl⟩
  ok := by
    intro p hp args H vs' H' h S w B vs hS hW hl hr
    rw [hb] at hp; cases hp
    exact ins_ok h hS hW hl hr
end Go.Proofs.Ytbchmbddcdionaa.Code

/- logic: links between valid bases. -/
set_option linter.unusedSimpArgs false
set_option linter.unusedVariables false
namespace Go.Proofs.Ytbchmbddcdionaa.Code
open Go.Proofs.Ytbchmbddcdionaa.Ev

structure Link where
  child : Int
  field : Int
  rule : ByteArray
def eLink (l : Link) : AV := .agg [.int .i64 l.child, .int .i64 l.field, .str l.rule]
def bLink (l : Link) : Blk := ⟨0, true, 27, 3, [[.int .i64 l.child, .int .i64 l.field, .str l.rule]]⟩
def fieldFit (t r : Ty) (k : Int) : Bool :=
  decide (0 ≤ k) && match t.fields[k.toNat]?, r.fields[r.key.toNat]? with
  | some f, some g => decide (f.at' + f.bytes ≤ t.min) && decide (f.bytes = g.bytes)
  | _, _ => false
def ruleOk (r : ByteArray) : Bool := decide (r = ⟨#[80]⟩) || decide (r = ⟨#[76]⟩) || decide (r = ⟨#[86]⟩)
def isLink (a b : Base) (l : Link) : Bool :=
  decide (1 ≤ l.child) && decide (l.child < (a.types.length : Int)) && ruleOk l.rule && match a.types[l.child.toNat]?, b.types[0]? with
  | some t, some r => fieldFit t r l.field
  | _, _ => false
theorem ba_toList (r : ByteArray) (x : UInt8) : r.toList = [x] ↔ r = ⟨#[x]⟩ := by
  constructor
  · intro h
    exact data_ext (Array.toList_inj.1 (by rw [← toList_eq, h]))
  · intro h; subst h; rw [toList_eq]
theorem tyOk_at {ts : List Ty} (h : tysOk ts = true) {k : Nat} {t : Ty} (ht : ts[k]? = some t) : tyOk t = true := by
  have := tell_true.1 h k t ht
  simp only [tyAt, Bool.and_eq_true] at this
  exact this.1.1.1
theorem root_at {b : Base} (h : validB b = true) : ∃ (r : Ty) (m : Nat) (k : Fd), b.types[0]? = some r ∧ tyOk r = true ∧ r.key = (m : Int) ∧ r.fields[m]? = some k ∧ 0 ≤ k.at' ∧ 1 ≤ k.bytes ∧ k.at' + k.bytes ≤ r.min ∧ r.min ≤ 40 := by
  have ht := valid_tys h
  simp only [validB, areTys, Bool.and_eq_true, decide_eq_true_eq] at h
  obtain ⟨r, hr⟩ : ∃ r, b.types[0]? = some r := ⟨_, List.getElem?_eq_getElem (by omega)⟩
  have h1 := tell_true.1 ht 0 r hr
  simp only [tyAt, Bool.and_eq_true, if_true, rootOk, decide_eq_true_eq] at h1
  obtain ⟨m, k, g1, g2, g3, g4, g5, g6⟩ := key_in h1.1.1.1 h1.1.2.1.1.2
  exact ⟨r, m, k, hr, h1.1.1.1, g1, g2, g3, g4, g5, g6⟩
theorem fld_wrap {t : Ty} (h : tyOk t = true) {i : Nat} {f : Fd} (hf : t.fields[i]? = some f) : 0 ≤ f.at' ∧ 1 ≤ f.bytes ∧ f.at' + f.bytes ≤ 40 ∧ Go.RowKit.wrap64 (f.at' + f.bytes) = f.at' + f.bytes := by
  simp only [tyOk, Bool.and_eq_true] at h
  obtain ⟨⟨⟨_, h1⟩, h2⟩, _⟩ := h
  simp only [sizeOk, Bool.and_eq_true, decide_eq_true_eq] at h1
  have := fld_of h2 hf
  refine ⟨by omega, by omega, by omega, ?_⟩
  unfold Go.RowKit.wrap64
  omega
theorem sem_link {a b : Base} (va : validB a = true) (vb : validB b = true) (l : Link) : sem43 (eTys a.types) (eTys b.types) l.child l.field l.rule = some (isLink a b l) := by
  obtain ⟨r, m, k, hr, hro, hm, hk, k1, k2, k3, k4⟩ := root_at vb
  unfold sem43 eTys isLink
  simp only [List.length_map, List.getElem?_map, hr, Option.map_some]
  by_cases h1 : l.child < 1
  · rw [if_pos h1, decide_eq_false (by omega)]; simp
  rw [if_neg h1, decide_eq_true (by omega : 1 ≤ l.child)]
  by_cases h2 : l.child < (a.types.length : Int)
  rotate_left
  · rw [if_pos h2, decide_eq_false h2]; simp
  rw [if_neg (not_not_intro h2), decide_eq_true h2]
  by_cases h3 : ruleOk l.rule = true
  rotate_left
  · have h3' : ¬ (l.rule.toList = [80] ∨ l.rule.toList = [76] ∨ l.rule.toList = [86]) := by simpa [ruleOk, ba_toList, not_or, and_assoc] using h3
    rw [if_pos h3']
    simp [h3]
  have h3' : l.rule.toList = [80] ∨ l.rule.toList = [76] ∨ l.rule.toList = [86] := by simpa [ruleOk, ba_toList, or_assoc] using h3
  rw [if_neg (not_not_intro h3'), h3]
  obtain ⟨t, ht⟩ : ∃ t, a.types[l.child.toNat]? = some t := ⟨_, List.getElem?_eq_getElem (by omega)⟩
  have hto := tyOk_at (valid_tys va) ht
  simp only [ht, Option.map_some, rTy, eFds, List.length_map, List.getElem?_map, Bool.true_and, fieldFit]
  by_cases h4 : l.field < 0
  · rw [if_pos h4, decide_eq_false (by omega)]; simp
  rw [if_neg h4, decide_eq_true (by omega : 0 ≤ l.field), Bool.true_and]
  by_cases h5 : l.field < (t.fields.length : Int)
  rotate_left
  · rw [if_pos h5, List.getElem?_eq_none (by omega)]
  obtain ⟨f, hf⟩ : ∃ f, t.fields[l.field.toNat]? = some f := ⟨_, List.getElem?_eq_getElem (by omega)⟩
  obtain ⟨w1, w2, w3, w4⟩ := fld_wrap hto hf
  rw [if_neg (not_not_intro h5), hm, if_neg (by omega)]
  simp only [Int.toNat_natCast, hk, hf, Option.map_some, rFd, w4]
  by_cases h6 : f.at' + f.bytes ≤ t.min
  · rw [if_pos h6, decide_eq_true h6, Bool.true_and]
    rfl
  · rw [if_neg h6, decide_eq_false h6, Bool.false_and]
structure LinkAt (a b : Base) (l : Link) (c : Nat) (t : Ty) (k : Nat) (f : Fd) : Prop where
  child : l.child = (c : Int)
  pos : 1 ≤ c
  ty : a.types[c]? = some t
  ok : tyOk t = true
  field : l.field = (k : Int)
  fld : t.fields[k]? = some f
  at0 : 0 ≤ f.at'
  b1 : 1 ≤ f.bytes
  fit : f.at' + f.bytes ≤ t.min
  le : f.at' + f.bytes ≤ 40
  rule : l.rule = ⟨#[80]⟩ ∨ l.rule = ⟨#[76]⟩ ∨ l.rule = ⟨#[86]⟩
theorem link_at {a b : Base} {l : Link} (va : validB a = true) (h : isLink a b l = true) : ∃ (c : Nat) (t : Ty) (k : Nat) (f : Fd), LinkAt a b l c t k f := by
  unfold isLink at h
  simp only [Bool.and_eq_true, decide_eq_true_eq] at h
  obtain ⟨⟨⟨h1, h2⟩, h3⟩, h4⟩ := h
  split at h4
  · rename_i t r ht hr
    simp only [fieldFit, Bool.and_eq_true, decide_eq_true_eq] at h4
    obtain ⟨h5, h6⟩ := h4
    split at h6
    · rename_i f g hf hg
      simp only [Bool.and_eq_true, decide_eq_true_eq] at h6
      have hto := tyOk_at (valid_tys va) ht
      obtain ⟨w1, w2, w3, w4⟩ := fld_wrap hto hf
      refine ⟨l.child.toNat, t, l.field.toNat, f, ⟨by omega, by omega, ht, hto, by omega, hf, w1, w2, h6.1, w3, ?_⟩⟩
      simpa [ruleOk, or_assoc] using h3
    · cases h6
  · cases h4
theorem fn_user {call it} {n : Nat} {res : List CRes} {p : List AV → Heap → Option (List AV × Heap)} (args : List AV) (H : Heap) : evFn call it ⟨n, res, .user p, false, false⟩ args H = bodyK res ((p args H).map fun r => (CX.ret, (argEnv 0 r.1, r.2))) := by
  rw [fn_eq]
  simp only [evCode, user_args]
theorem f43 {a b : Base} (va : validB a = true) (vb : validB b = true) (l : Link) (H : Heap) : cal (evC cprog) false 43 [eBase a, eBase b, eLink l] H = some (.bool (isLink a b l), H) := by
  rw [cal_of at43, show c43 = ⟨0, [.t 0], .user p43, false, false⟩ from rfl, fn_user]
  have h : p43 [eBase a, eBase b, eLink l] H = some ([.bool (isLink a b l)], H) := by
    have := sem_link va vb l
    simp only [p43, eBase, eLink, this, Option.map_some]
  rw [h]
  simp only [evX, Int.reduceEq, Int.reduceLT, Int.reduceLE, Nat.reduceMul, Nat.reduceMod, evW, fn_eq, evR, Nat.reduceAdd, Nat.reduceLT, Nat.reduceLeDiff, reduceIte, Nat.reduceEqDiff, reduceCtorEq, argEnv, eq_self, if_true, if_false]
theorem f45 {a b : Base} (va : validB a = true) (vb : validB b = true) (l : Link) (H : Heap) : cal (evC cprog) false 45 [eBase a, eBase b, eLink l] H = some (.bool (isLink a b l), H) := by
  rw [cal_of at45, show c45 = ⟨0, [.t 0], .user p43, false, false⟩ from rfl, fn_user]
  have h : p43 [eBase a, eBase b, eLink l] H = some ([.bool (isLink a b l)], H) := by
    have := sem_link va vb l
    simp only [p43, eBase, eLink, this, Option.map_some]
  rw [h]
  simp only [evX, Int.reduceEq, Int.reduceLT, Int.reduceLE, Nat.reduceMul, Nat.reduceMod, evW, fn_eq, evR, Nat.reduceAdd, Nat.reduceLT, Nat.reduceLeDiff, reduceIte, Nat.reduceEqDiff, reduceCtorEq, argEnv, eq_self, if_true, if_false]
theorem f14 (a b : Base) (ha : a.Ok) (hb : b.Ok) (l : Link) (H : Heap) : cal (evC cprog) false 14 [eBase a, eBase b, eLink l] H = some (bEr (validB a && validB b && isLink a b l) (if (validB a && validB b) = true then 0 else 100), H) := by
  rw [cal_of at14]
  have h1 := f42 a ha
  have h2 := f42 b hb
  simp only [eBase] at h1 h2
  cases va : validB a with
  | false => simp only [c14, eBase, eLink, h1, va, bEr, evX, Int.reduceEq, Int.reduceLT, Int.reduceLE, Nat.reduceMul, Nat.reduceMod, evW, fn_eq, evR, Nat.reduceAdd, Nat.reduceLT, Nat.reduceLeDiff, reduceIte, Nat.reduceEqDiff, reduceCtorEq, argEnv, eq_self, if_true, if_false]
  | true =>
    cases vb : validB b with
    | false => simp only [c14, eBase, eLink, h1, h2, va, vb, bEr, evX, Int.reduceEq, Int.reduceLT, Int.reduceLE, Nat.reduceMul, Nat.reduceMod, evW, fn_eq, evR, Nat.reduceAdd, Nat.reduceLT, Nat.reduceLeDiff, reduceIte, Nat.reduceEqDiff, reduceCtorEq, argEnv, eq_self, if_true, if_false]
    | true =>
      have h3 := f43 va vb l
      simp only [eBase, eLink] at h3
      simp only [c14, eBase, eLink, h1, h2, h3, va, vb, bEr, evX, Int.reduceEq, Int.reduceLT, Int.reduceLE, Nat.reduceMul, Nat.reduceMod, evW, fn_eq, evR, Nat.reduceAdd, Nat.reduceLT, Nat.reduceLeDiff, reduceIte, Nat.reduceEqDiff, reduceCtorEq, argEnv, eq_self, if_true, if_false]
end Go.Proofs.Ytbchmbddcdionaa.Code

/- logic: what is collected; keys of the base, of the program. -/
set_option linter.unusedSimpArgs false
set_option linter.unusedVariables false
namespace Go.Proofs.Ytbchmbddcdionaa.Code
open Go.Proofs.Ytbchmbddcdionaa.Ev

/-- what is gathered, element by element -/
def gath {α β : Type} (g : Nat → α → List β) : Nat → List α → List β
  | _, [] => []
  | k, x :: l => g k x ++ gath g (k + 1) l
theorem gath_take {α β : Type} (g : Nat → α → List β) : ∀ (l : List α) (k i : Nat) (x : α), l[i]? = some x → gath g k (l.take (i + 1)) = gath g k (l.take i) ++ g (k + i) x
  | [], k, i, x, h => by simp at h
  | y :: l, k, 0, x, h => by
    simp at h; subst h
    simp [gath]
  | y :: l, k, i + 1, x, h => by
    rw [List.take_succ_cons, List.take_succ_cons, gath, gath, gath_take g l (k + 1) i x (by simpa using h), List.append_assoc, show k + 1 + i = k + (i + 1) by omega]
theorem gath_len {α β : Type} (g : Nat → α → List β) (h : ∀ i x, (g i x).length ≤ 1) : ∀ (l : List α) (k : Nat), (gath g k l).length ≤ l.length
  | [], k => by simp [gath]
  | y :: l, k => by
    have := gath_len g h l (k + 1)
    have := h k y
    simp only [gath, List.length_append, List.length_cons]; omega
/-- a loop that gathers into a slice that grows -/
theorem gath_rule {α β : Type} (l : List α) (g : Nat → α → List β) (enc : β → List AV) (m : List Nat) (env : Nat → AV → Env) (H : Heap) (sz ty : Nat) (body : St → Option (CX × St)) (x0 : Nat) (mo : List Nat) (eo : AV → Env)
    (step : ∀ i x, l[i]? = some x → ∀ E X rv, keepEnv E m = env i rv → Out H.length sz ty X rv ((gath g 0 (l.take i)).map enc) →
      ∃ T X' rv', body (E, H ++ X) = some (.normal, T, H ++ X') ∧ keepEnv T m = env (i + 1) rv' ∧ Out H.length sz ty X' rv' ((gath g 0 (l.take i)).map enc ++ (g i x).map enc))
    (fin : ∀ E X rv, keepEnv E m = env l.length rv → ∃ T, body (E, H ++ X) = some (.exit x0, T, H ++ X) ∧ keepEnv T mo = eo rv)
    (st : St) (X0 : Heap) (rv0 : AV) (h0 : Out H.length sz ty X0 rv0 []) (hE : keepEnv st.1 m = env 0 rv0) (hH : st.2 = H ++ X0) (z : Option (CX × St)) (hz : itLim body st = z) :
    ∃ T X rv, z = some (.exit x0, T, H ++ X) ∧ keepEnv T mo = eo rv ∧ Out H.length sz ty X rv ((gath g 0 l).map enc) := by
  have L := loop_rule (σ := Nat × Heap × AV) (m := m) (env := fun s => env s.1 s.2.2) (hp := fun s => H ++ s.2.1)
    (P := fun _ r => ∃ T X rv, r = (.exit x0, T, H ++ X) ∧ keepEnv T mo = eo rv ∧ Out H.length sz ty X rv ((gath g 0 l).map enc))
    (mu := fun s => l.length - s.1) (I := fun s => s.1 ≤ l.length ∧ Out H.length sz ty s.2.1 s.2.2 ((gath g 0 (l.take s.1)).map enc)) body ?_ (0, X0, rv0) st ⟨by simp, by simpa [gath] using h0⟩ hE hH z hz
  · obtain ⟨_, rfl, T, X, rv, rfl, h⟩ := L
    exact ⟨T, X, rv, rfl, h⟩
  · intro ⟨i, X, rv⟩ ⟨hi, hO⟩ E hE
    simp only at hi hO hE ⊢
    by_cases hlt : i < l.length
    · obtain ⟨x, hx⟩ : ∃ x, l[i]? = some x := ⟨_, List.getElem?_eq_getElem hlt⟩
      obtain ⟨T, X', rv', h1, h2, h3⟩ := step i x hx E X rv hE hO
      rw [h1]
      refine q_next (i + 1, X', rv') h2 rfl ⟨by omega, ?_⟩ (by simp only; omega) fun r h => h
      simp only [gath_take g l 0 i x hx, Nat.zero_add, List.map_append]
      exact h3
    · have : i = l.length := by omega
      subst this
      obtain ⟨T, h1, h2⟩ := fin E X rv hE
      rw [h1]
      rw [List.take_of_length_le (Nat.le_refl _)] at hO
      exact q_exit ⟨_, _, _, rfl, h2, hO⟩
theorem app_row {n sz ty : Nat} {X : Heap} {rv : AV} {rows : List (List AV)} (h : Out n sz ty X rv rows) (H0 : Heap) (hn : n = H0.length) (bytes : Nat) (r : List AV) (hr : r.length = sz) (hb : (rows.length + 1) * bytes ≤ reach ∧ rows.length + 1 ≤ reach) :
    ∃ rv' X', appK ty sz bytes false (H0 ++ (X ++ [⟨0, true, ty, sz, [r]⟩])) (some rv) (some (.ref (n + X.length) 0 sz 0 1)) = some (rv', H0 ++ X') ∧ rv'.isTup = false ∧ Out n sz ty X' rv' (rows ++ [r]) ∧ Keeps n (X ++ [⟨0, true, ty, sz, [r]⟩]) rv X' ∧ Moved n (X ++ [⟨0, true, ty, sz, [r]⟩]) rv rv' := by
  subst hn
  exact (h.more [⟨0, true, ty, sz, [r]⟩]).app2 H0 rfl bytes _ [r] (by simp [srcRows, rowsOf, curBlk, at_app]) (by simpa using hr) (by simp) (by simpa using hb)
/-- one element more, of one cell -/
theorem app_int {n ty : Nat} {X : Heap} {rv : AV} {l : List Int} (h : Out n 1 ty X rv (l.map rI)) (H0 : Heap) (hn : n = H0.length) (hl : l.length ≤ 1000000) (a : Int) :
    ∃ rv' X', appK ty 1 8 false (H0 ++ (X ++ [⟨0, true, ty, 1, [[.int .i64 a]]⟩])) (some rv) (some (.ref (H0.length + X.length) 0 1 0 1)) = some (rv', H0 ++ X') ∧ rv'.isTup = false ∧ Out n 1 ty X' rv' ((l ++ [a]).map rI) := by
  subst hn
  obtain ⟨rv', X', a1, a2, a3, _⟩ := app_row h H0 rfl 8 (rI a) rfl (by simp only [List.length_map, reach]; omega)
  exact ⟨rv', X', a1, a2, by simpa using a3⟩

theorem f89a (b : Base) (hb : b.Ok) (a : AV) (hat : a.isTup = false) (l : List Int) (hl : l.length < 9223372036854775807) (H : Heap) (ha : SlAt H 1 a (l.map rI)) : cal (evC cprog) false 89 [eBase b, a] H = some (.int .i64 (errB b l), H) := by
  rw [cal_of at89]
  have h1 := f42 b hb
  simp only [eBase] at h1
  cases hv : validB b with
  | false =>
    simp only [c89, eBase, h1, hv, evX, Int.reduceEq, Int.reduceLT, Int.reduceLE, Nat.reduceMul, Nat.reduceMod, evW, fn_eq, evR, Nat.reduceAdd, Nat.reduceLT, Nat.reduceLeDiff, reduceIte, Nat.reduceEqDiff, reduceCtorEq, argEnv, eq_self, if_true, if_false]
    simp [errB, hv]
  | true =>
    have h65 := containsFunc_ok (g := 109) at86 (indexFunc_ok (sz := 1) (ag := false) at109 rI (fun x => .int .i64 x) lI 112 [.ptr H.length 0 4 0 0] (tyOut b.types) (H ++ [bBase b]) a l (ha.app _) hl fun x _ => f112 b x H.length _ (.mk (by simp)))
    simp only [bBase] at h65
    cases hc : l.any (tyOut b.types) with
    | false =>
      simp only [c89, eBase, h1, hv, h65, hc, scal_ptr, hat, evX, Int.reduceEq, Int.reduceLT, Int.reduceLE, Nat.reduceMul, Nat.reduceMod, evW, fn_eq, evR, Nat.reduceAdd, Nat.reduceLT, Nat.reduceLeDiff, reduceIte, Nat.reduceEqDiff, reduceCtorEq, argEnv, eq_self, if_true, if_false]
      simp [errB, hv, hc]
    | true =>
      simp only [c89, eBase, h1, hv, h65, hc, scal_ptr, hat, evX, Int.reduceEq, Int.reduceLT, Int.reduceLE, Nat.reduceMul, Nat.reduceMod, evW, fn_eq, evR, Nat.reduceAdd, Nat.reduceLT, Nat.reduceLeDiff, reduceIte, Nat.reduceEqDiff, reduceCtorEq, argEnv, eq_self, if_true, if_false]
      simp [errB, hv, hc]
theorem f90 (t : Ty) (d : ByteArray) (H : Heap) : cal (evC cprog) false 90 [.agg (rTy t), .str d] H = some (.bool (decide (t.min ≤ (d.size : Int)) && decide ((d.size : Int) ≤ t.size)), H) := by
  rw [cal_of at90]
  simp only [c90, rTy, evX, Int.reduceEq, Int.reduceLT, Int.reduceLE, Nat.reduceMul, Nat.reduceMod, evW, fn_eq, evR, Nat.reduceAdd, Nat.reduceLT, Nat.reduceLeDiff, reduceIte, Nat.reduceEqDiff, reduceCtorEq, argEnv, eq_self, if_true, if_false]
  repeat' ((first | rw [guardK_cases] | rw [condK_bool] | rw [guardD_cases]); split <;> simp only [c90, rTy, evX, Int.reduceEq, Int.reduceLT, Int.reduceLE, Nat.reduceMul, Nat.reduceMod, evW, evR, Nat.reduceAdd, Nat.reduceLT, Nat.reduceLeDiff, reduceIte, Nat.reduceEqDiff, reduceCtorEq, argEnv, eq_self, if_true, if_false, *])
  all_goals simp_all
theorem f91 (f : Fd) (h0 : 0 ≤ f.at') (h1 : 1 ≤ f.bytes) (h2 : f.at' + f.bytes ≤ 40) (d : ByteArray) (hd : f.at' + f.bytes ≤ (d.size : Int)) (H : Heap) :
    cal (evC cprog) false 91 [.agg (rFd f), .str d] H = some (.tup [.str (d.extract f.at'.toNat (f.at' + f.bytes).toNat), .bool true], H) := by
  rw [cal_of at91]
  have hw := wrapQ (a := f.at') (b := f.bytes) (by omega) (by omega) (by omega) (by omega)
  have k2 : ¬ (d.size : Int) < f.at' + f.bytes := by omega
  have hsl := slcs_at d (a := f.at') (c := f.at' + f.bytes) h0 (by omega) (by omega)
  simp only [c91, rFd, k2, hw, p_slcs, slcsK_some, asNat_int h0, asNat_int (show 0 ≤ f.at' + f.bytes by omega), hsl, evX, Int.reduceEq, Int.reduceLT, Int.reduceLE, Nat.reduceMul, Nat.reduceMod, evW, fn_eq, evR, Nat.reduceAdd, Nat.reduceLT, Nat.reduceLeDiff, reduceIte, Nat.reduceEqDiff, reduceCtorEq, argEnv, eq_self, if_true, if_false]
theorem f64k (b : Base) (hb : b.Ok) (hv : validB b = true) (k : Nat) (t : Ty) (ht : b.types[k]? = some t) (hty : tyOk t = true) (d : ByteArray) (hf : fits b.types ⟨(k : Int), d⟩ = true) (H : Heap) :
    cal (evC cprog) false 64 [eBase b, .int .i64 (k : Int), .str d] H = some (.tup [.str (keyOf t d), .int .i64 0], H) := by
  rw [cal_of at64]
  have hk := (List.getElem?_eq_some_iff.1 ht).1
  have h89 := f89a b hb (.ref (H.length + 1) 0 1 0 1) rfl [(k : Int)] (by simp) (H ++ [bBase b, bI (k : Int)]) (one_slat H (k : Int) [bBase b])
  rw [errB_ok hv hk] at h89
  simp only [eBase, bBase, bI] at h89
  have hat := aTy ht
  have h90 := f90 t d
  rw [fits_at (x := ⟨(k : Int), d⟩) rfl ht] at hf
  rw [hf] at h90
  simp only [rTy] at h90
  by_cases hk : t.key < 0
  · simp only [c64, eBase, h89, hat, rTy, h90, hk, evX, Int.reduceEq, Int.reduceLT, Int.reduceLE, Nat.reduceMul, Nat.reduceMod, evW, fn_eq, evR, Nat.reduceAdd, Nat.reduceLT, Nat.reduceLeDiff, reduceIte, Nat.reduceEqDiff, reduceCtorEq, argEnv, eq_self, if_true, if_false]
    simp [keyOf, hk]
  · obtain ⟨m, f, h1, h2, h3, h4, h5, h6⟩ := key_in hty (by omega)
    have haf := aFd h2
    have k0 : ¬ (m : Int) < 0 := by omega
    simp only [Bool.and_eq_true, decide_eq_true_eq] at hf
    have h91 := f91 f h3 h4 (by omega) d (by omega)
    simp only [rFd] at h91
    rw [h1] at h90
    rw [keyOf_at h1 h2]
    simp only [c64, eBase, h89, hat, rTy, rFd, h90, h1, k0, haf, h91, evX, Int.reduceEq, Int.reduceLT, Int.reduceLE, Nat.reduceMul, Nat.reduceMod, evW, fn_eq, evR, Nat.reduceAdd, Nat.reduceLT, Nat.reduceLeDiff, reduceIte, Nat.reduceEqDiff, reduceCtorEq, argEnv, eq_self, if_true, if_false]
theorem f78g (b : Base) (hb : b.Ok) (hv : validB b = true) (k : Nat) (t : Ty) (ht : b.types[k]? = some t) (m : Nat) (f : Fd) (hm : t.fields[m]? = some f) (h3 : 0 ≤ f.at') (h4 : 1 ≤ f.bytes) (h5 : f.at' + f.bytes ≤ t.min) (h6 : f.at' + f.bytes ≤ 40) (d : ByteArray) (hf : fits b.types ⟨(k : Int), d⟩ = true) (H : Heap) :
    cal (evC cprog) false 78 [eBase b, .int .i64 (k : Int), .str d, .int .i64 (m : Int)] H = some (.tup [.str (d.extract f.at'.toNat (f.at' + f.bytes).toNat), .bool true, .int .i64 0], H) := by
  rw [cal_of at78]
  have h69 := f101 b hb hv k t ht d
  rw [hf] at h69
  simp only [eBase, bEr] at h69
  have hat := aTy ht
  have haf := aFd hm
  have hml := (List.getElem?_eq_some_iff.1 hm).1
  have hfl := (sFds [] t.fields).len
  simp only [List.length_map] at hfl
  have hmin : t.min ≤ (d.size : Int) := by
    rw [fits_at (x := ⟨(k : Int), d⟩) rfl ht] at hf
    simp only [Bool.and_eq_true, decide_eq_true_eq] at hf
    exact hf.1
  have hw := wrapQ (a := f.at') (b := f.bytes) (by omega) (by omega) (by omega) (by omega)
  have k0 : ¬ (m : Int) < 0 := by omega
  have k1 : ¬ (t.fields.length : Int) ≤ (m : Int) := by omega
  have k2 : ¬ (d.size : Int) < f.at' + f.bytes := by omega
  have hsl := slcs_at d (a := f.at') (c := f.at' + f.bytes) h3 (by omega) (by omega)
  simp only [c78, eBase, h69, hat, hfl, rTy, rFd, k0, k1, k2, haf, hw, p_slcs, slcsK_some, asNat_int h3, asNat_int (show 0 ≤ f.at' + f.bytes by omega), hsl, evX, Int.reduceEq, Int.reduceLT, Int.reduceLE, Nat.reduceMul, Nat.reduceMod, evW, fn_eq, evR, Nat.reduceAdd, Nat.reduceLT, Nat.reduceLeDiff, reduceIte, Nat.reduceEqDiff, reduceCtorEq, argEnv, eq_self, if_true, if_false]
end Go.Proofs.Ytbchmbddcdionaa.Code

/- logic: a pair of forests: keys, roots, parents, what is lost, of the program. -/
set_option linter.unusedSimpArgs false
set_option linter.unusedVariables false
namespace Go.Proofs.Ytbchmbddcdionaa.Code
open Go.Proofs.Ytbchmbddcdionaa.Ev

theorem nck_ptr (b v s i o : Nat) : nilckK (some (.ptr b v s i o)) = some (.ptr b v s i o) := rfl
structure Pr where
  a : Base
  b : Base
  l : Link
  f : List Item
  g : List Item
structure Pr.Ok (x : Pr) : Prop where
  a : x.a.Ok
  b : x.b.Ok
  va : validB x.a = true
  vb : validB x.b = true
  li : isLink x.a x.b x.l = true
  f : forestOk x.a.types x.f = true
  g : forestOk x.b.types x.g = true
def bPair (x : Pr) : Blk := ⟨0, true, 94, 13, [[.str x.a.name, .int .i64 x.a.kind, eTys x.a.types, eSes x.a.indexes, .str x.b.name, .int .i64 x.b.kind, eTys x.b.types, eSes x.b.indexes, .int .i64 x.l.child, .int .i64 x.l.field, .str x.l.rule, eItems x.f, eItems x.g]]⟩
def linkFd (a : Base) (l : Link) : Fd := match a.types[l.child.toNat]? with
  | some t => (match t.fields[l.field.toNat]? with
    | some f => f
    | none => ⟨⟨#[]⟩, 0, 0⟩)
  | none => ⟨⟨#[]⟩, 0, 0⟩
def kOf (x : Pr) (d : ByteArray) : ByteArray := d.extract (linkFd x.a x.l).at'.toNat ((linkFd x.a x.l).at' + (linkFd x.a x.l).bytes).toNat
def rootTy (b : Base) : Ty := tyOf b.types 0
def isRoot (b : Base) (key : ByteArray) (y : Item) : Bool := decide (y.type = 0) && decide (keyOf (rootTy b) y.data = key)
def rootIx (x : Pr) (key : ByteArray) : Int := idxOf (isRoot x.b key) x.g
def upI (x : Pr) (d : ByteArray) : Int := rootIx x (kOf x d)
def isLost (x : Pr) (y : Item) : Bool := decide (y.type = x.l.child) && decide (upI x y.data < 0)
def lostL (x : Pr) : List Int := gath (fun i y => if isLost x y = true then [(i : Int)] else []) 0 x.f
def agreeB (x : Pr) : Bool := decide (x.l.rule = ⟨#[76]⟩) || decide ((lostL x).length = 0)
theorem LinkAt.linkFd {a b : Base} {l : Link} {c : Nat} {t : Ty} {k : Nat} {f : Fd} (h : LinkAt a b l c t k f) : linkFd a l = f := by
  simp [Code.linkFd, h.child, h.ty, h.field, h.fld]
theorem Sits.app {H : Heap} {n : Nat} {k : Blk} (h : Sits H n k) (G : Heap) : Sits (H ++ G) n k := fun X => by rw [List.append_assoc]; exact h _
theorem forest_fits {b : Base} {f : List Item} (h : forestOk b.types f = true) : f.length ≤ 200 ∧ ∀ (i : Nat) (y : Item), f[i]? = some y → fits b.types y = true := by
  simp only [forestOk, Bool.and_eq_true, decide_eq_true_eq, tell_true] at h
  exact ⟨by omega, fun i y hy => ok_fits (h.2 i y hy)⟩
theorem fits_min {ts : List Ty} {k : Nat} {t : Ty} (ht : ts[k]? = some t) {d : ByteArray} (h : fits ts ⟨(k : Int), d⟩ = true) : t.min ≤ (d.size : Int) := by
  rw [fits_at (x := ⟨(k : Int), d⟩) rfl ht] at h
  simp only [Bool.and_eq_true, decide_eq_true_eq] at h
  exact h.1
theorem f65 (x : Pr) (h : x.Ok) (d : ByteArray) (hd : fits x.a.types ⟨x.l.child, d⟩ = true) (n : Nat) (H : Heap) (hs : Sits H n (bPair x)) : cal (evC cprog) false 65 [.ptr n 0 13 0 0, .str d] H = some (.str (kOf x d), H) := by
  rw [cal_of at65]
  obtain ⟨c, t, k, f, L⟩ := link_at h.va h.li
  rw [L.child] at hd
  have hmin := fits_min L.ty hd
  have l1 := L.at0
  have l2 := L.b1
  have l3 := L.fit
  have l4 := L.le
  have l5 := L.child
  have l6 := L.field
  have g0 := hs.at
  simp only [bPair, Sits] at hs g0
  have hat := aTy L.ty
  have haf := aFd L.fld
  have hw := wrapQ (a := f.at') (b := f.bytes) (by omega) (by omega) (by omega) (by omega)
  have hsl := slcs_at d (a := f.at') (c := f.at' + f.bytes) l1 (by omega) (by omega)
  rw [show kOf x d = d.extract f.at'.toNat (f.at' + f.bytes).toNat by unfold kOf; rw [L.linkFd]]
  simp only [c65, nck_ptr, hs, g0, l5, l6, hat, haf, rTy, rFd, hw, p_slcs, slcsK_some, asNat_int l1, asNat_int (show 0 ≤ f.at' + f.bytes by omega), hsl, evX, Int.reduceEq, Int.reduceLT, Int.reduceLE, Nat.reduceMul, Nat.reduceMod, evW, fn_eq, evR, Nat.reduceAdd, Nat.reduceLT, Nat.reduceLeDiff, reduceIte, Nat.reduceEqDiff, reduceCtorEq, argEnv, eq_self, if_true, if_false]
def bPP (n : Nat) : Blk := ⟨0, true, 61, 1, [[.ptr n 0 13 0 0]]⟩
def bKey (k : ByteArray) : Blk := ⟨0, true, 9, 1, [[.str k]]⟩
theorem f100 (x : Pr) (h : x.Ok) (key : ByteArray) (y : Item) (hy : fits x.b.types y = true) (n b1 b2 : Nat) (H : Heap) (h0 : Sits H n (bPair x)) (h1 : Sits H b1 (bPP n)) (h2 : Sits H b2 (bKey key)) :
    cal (evC cprog) false 100 [.agg (rItem y), .ptr b1 0 1 0 0, .ptr b2 0 1 0 0] H = some (.bool (isRoot x.b key y), H) := by
  rw [cal_of at100]
  have g0 := h0.at
  have g1 := h1.at
  have g2 := h2.at
  simp only [bPair, bPP, bKey, Sits] at h0 h1 h2 g0 g1 g2
  by_cases ht : y.type = 0
  · obtain ⟨r, m, k, hr, hro, _⟩ := root_at h.vb
    have h64 : ∀ H, cal (evC cprog) false 64 [eBase x.b, .int .i64 0, .str y.data] H = some (.tup [.str (keyOf r y.data), .int .i64 0], H) := fun H => f64k x.b h.b h.vb 0 r hr hro y.data (by
      rw [show (⟨((0 : Nat) : Int), y.data⟩ : Item) = y by cases y; simp_all]; exact hy) H
    simp only [eBase] at h64
    have hrt : rootTy x.b = r := tyOf_at hr
    simp only [c100, nck_ptr, rItem, ht, h0, h1, h2, g0, g1, g2, h64, evX, Int.reduceEq, Int.reduceLT, Int.reduceLE, Nat.reduceMul, Nat.reduceMod, evW, fn_eq, evR, Nat.reduceAdd, Nat.reduceLT, Nat.reduceLeDiff, reduceIte, Nat.reduceEqDiff, reduceCtorEq, argEnv, eq_self, if_true, if_false]
    all_goals simp [isRoot, ht, hrt, str_beq]
  · simp only [c100, nck_ptr, rItem, ht, h0, h1, h2, g0, g1, g2, evX, Int.reduceEq, Int.reduceLT, Int.reduceLE, Nat.reduceMul, Nat.reduceMod, evW, fn_eq, evR, Nat.reduceAdd, Nat.reduceLT, Nat.reduceLeDiff, reduceIte, Nat.reduceEqDiff, reduceCtorEq, argEnv, eq_self, if_true, if_false]
    all_goals simp [isRoot, ht]
theorem f77 (x : Pr) (h : x.Ok) (key : ByteArray) (n : Nat) (H : Heap) (hs : Sits H n (bPair x)) : cal (evC cprog) false 77 [.ptr n 0 13 0 0, .str key] H = some (.int .i64 (rootIx x key), H) := by
  rw [cal_of at77]
  obtain ⟨hl, hf⟩ := forest_fits h.g
  have h99 := indexFunc_ok (sz := 2) (ag := true) at99 rItem (fun y => .agg (rItem y)) lItem 100 [.ptr H.length 0 1 0 0, .ptr (H.length + 1) 0 1 0 0] (isRoot x.b key) (H ++ [bPP n, bKey key]) (eItems x.g) x.g (sItems _ _) (by omega)
    fun y hy => (by
      obtain ⟨i, hi⟩ := List.getElem?_of_mem hy
      exact f100 x h key y (hf i y hi) n H.length (H.length + 1) _ (hs.app _) (.mk (by simp)) (.mk (by simp)))
  simp only [bPP, bKey] at h99
  have g0 := hs.at
  simp only [bPair, Sits] at hs g0
  simp only [c77, nck_ptr, hs, g0, h99, scal_ptr, evX, Int.reduceEq, Int.reduceLT, Int.reduceLE, Nat.reduceMul, Nat.reduceMod, evW, fn_eq, evR, Nat.reduceAdd, Nat.reduceLT, Nat.reduceLeDiff, reduceIte, Nat.reduceEqDiff, reduceCtorEq, argEnv, eq_self, if_true, if_false]
  all_goals rfl
theorem f52 (x : Pr) (h : x.Ok) (i : Nat) (y : Item) (hy : x.f[i]? = some y) (hc : y.type = x.l.child) (n : Nat) (H : Heap) (hs : Sits H n (bPair x)) : cal (evC cprog) false 52 [.ptr n 0 13 0 0, .int .i64 (i : Int)] H = some (.int .i64 (upI x y.data), H) := by
  rw [cal_of at52]
  obtain ⟨hl, hf⟩ := forest_fits h.f
  have h65 := f65 x h y.data (by rw [← hc]; exact hf i y hy) n H hs
  have h77 := f77 x h (kOf x y.data) n H hs
  have ha := aItem hy
  have g0 := hs.at
  simp only [bPair, Sits] at hs g0
  simp only [c52, nck_ptr, g0, h65, h77, ha, rItem, evX, Int.reduceEq, Int.reduceLT, Int.reduceLE, Nat.reduceMul, Nat.reduceMod, evW, fn_eq, evR, Nat.reduceAdd, Nat.reduceLT, Nat.reduceLeDiff, reduceIte, Nat.reduceEqDiff, reduceCtorEq, argEnv, eq_self, if_true, if_false]
  all_goals rfl
def isCh (x : Pr) (i : Int) : Bool := decide (0 ≤ i) && decide (i < (x.f.length : Int)) && decide (typ x.f i = x.l.child)
theorem f51 (x : Pr) (i : Int) (n : Nat) (H : Heap) (hs : Sits H n (bPair x)) : cal (evC cprog) false 51 [.ptr n 0 13 0 0, .int .i64 i] H = some (.bool (isCh x i), H) := by
  rw [cal_of at51]
  have hlen := (sItems [] x.f).len
  simp only [List.length_map] at hlen
  have g0 := hs.at
  simp only [bPair, Sits] at hs g0
  by_cases h1 : 0 ≤ i
  · by_cases h2 : i < (x.f.length : Int)
    · obtain ⟨j, rfl⟩ : ∃ j : Nat, i = (j : Int) := ⟨i.toNat, by omega⟩
      obtain ⟨y, hy⟩ : ∃ y, x.f[j]? = some y := ⟨_, List.getElem?_eq_getElem (by omega)⟩
      have ha := aItem hy
      have k1 : (0 : Int) ≤ (j : Int) := by omega
      simp only [c51, nck_ptr, g0, hlen, ha, rItem, k1, h2, evX, Int.reduceEq, Int.reduceLT, Int.reduceLE, Nat.reduceMul, Nat.reduceMod, evW, fn_eq, evR, Nat.reduceAdd, Nat.reduceLT, Nat.reduceLeDiff, reduceIte, Nat.reduceEqDiff, reduceCtorEq, argEnv, eq_self, if_true, if_false]
      all_goals simp_all [isCh, typ_at]
    · simp only [c51, nck_ptr, g0, hlen, h1, h2, evX, Int.reduceEq, Int.reduceLT, Int.reduceLE, Nat.reduceMul, Nat.reduceMod, evW, fn_eq, evR, Nat.reduceAdd, Nat.reduceLT, Nat.reduceLeDiff, reduceIte, Nat.reduceEqDiff, reduceCtorEq, argEnv, eq_self, if_true, if_false]
      all_goals simp [isCh, h2]
  · simp only [c51, nck_ptr, g0, hlen, h1, evX, Int.reduceEq, Int.reduceLT, Int.reduceLE, Nat.reduceMul, Nat.reduceMod, evW, fn_eq, evR, Nat.reduceAdd, Nat.reduceLT, Nat.reduceLeDiff, reduceIte, Nat.reduceEqDiff, reduceCtorEq, argEnv, eq_self, if_true, if_false]
    all_goals simp [isCh, h1]
theorem isCh_at {x : Pr} {i : Nat} {y : Item} (hy : x.f[i]? = some y) : isCh x (i : Int) = decide (y.type = x.l.child) := by
  have := (List.getElem?_eq_some_iff.1 hy).1
  simp [isCh, typ_at hy]
  intro _; omega
theorem lost_len (x : Pr) : (lostL x).length ≤ x.f.length := gath_len _ (fun i y => by split <;> simp) _ _
theorem f53 (x : Pr) (h : x.Ok) (n : Nat) (H : Heap) (hs : Sits H n (bPair x)) : cal (evC cprog) true 53 [.ptr n 0 13 0 0] H = some (eIs (lostL x), H) := by
  rw [cal_of at53]
  obtain ⟨hl, hf⟩ := forest_fits h.f
  have hlen := (sItems [] x.f).len
  simp only [List.length_map] at hlen
  have g0 := hs.at
  have hs0 := hs
  simp only [bPair, Sits] at hs g0
  simp only [c53, nck_ptr, g0, hlen, evX, Int.reduceEq, Int.reduceLT, Int.reduceLE, Nat.reduceMul, Nat.reduceMod, evW, fn_eq, evR, Nat.reduceAdd, Nat.reduceLT, Nat.reduceLeDiff, reduceIte, Nat.reduceEqDiff, reduceCtorEq, argEnv, eq_self, if_true, if_false]
  generalize hz : itLim _ _ = z
  have L := gath_rule x.f (fun i y => if isLost x y = true then [(i : Int)] else []) rI [0, 3, 9, 10] (fun i rv => [(0, .ptr n 0 13 0 0), (3, rv), (9, .int .i64 (x.f.length : Int)), (10, .int .i64 (i : Int))]) H 1 3 (evCode (evC cprog) itLim c53_l0) 0 [3] (fun rv => [(3, rv)])
    (fun i y hy E X rv hE hO => by
      have hlt : i < x.f.length := (List.getElem?_eq_some_iff.1 hy).1
      have hi : (i : Int) < (x.f.length : Int) := by omega
      have hw := wrapS hlt (by omega)
      have h51 := f51 x (i : Int) n (H ++ X) (hs0.app X)
      rw [isCh_at hy] at h51
      by_cases hc : y.type = x.l.child
      · have h52 := f52 x h i y hy hc n (H ++ X) (hs0.app X)
        rw [decide_eq_true hc] at h51
        by_cases hu : upI x y.data < 0
        · have hlost : isLost x y = true := by simp [isLost, hc, hu]
          rw [if_pos hlost]
          obtain ⟨rv', X', a1, a2, a3⟩ := app_int hO H rfl (by
            have := gath_len (fun i y => if isLost x y = true then [(i : Int)] else []) (fun i y => by split <;> simp) (x.f.take i) 0
            rw [List.length_take] at this; omega) (i : Int)
          simp only [c53_l0, hE, hi, h51, h52, hu, a1, a2, hw, evX, Int.reduceEq, Int.reduceLT, Int.reduceLE, Nat.reduceMul, Nat.reduceMod, evW, fn_eq, evR, Nat.reduceAdd, Nat.reduceLT, Nat.reduceLeDiff, reduceIte, Nat.reduceEqDiff, reduceCtorEq, argEnv, eq_self, if_true, if_false]
          exact ⟨_, _, _, rfl, by rfl, by simpa using a3⟩
        · have hlost : isLost x y = false := by simp [isLost, hu]
          rw [if_neg (by rw [hlost]; simp)]
          simp only [c53_l0, hE, hi, h51, h52, hu, hw, evX, Int.reduceEq, Int.reduceLT, Int.reduceLE, Nat.reduceMul, Nat.reduceMod, evW, fn_eq, evR, Nat.reduceAdd, Nat.reduceLT, Nat.reduceLeDiff, reduceIte, Nat.reduceEqDiff, reduceCtorEq, argEnv, eq_self, if_true, if_false]
          exact ⟨_, _, _, rfl, by rfl, by simpa using hO⟩
      · have hlost : isLost x y = false := by simp [isLost, hc]
        rw [decide_eq_false hc] at h51
        rw [if_neg (by rw [hlost]; simp)]
        simp only [c53_l0, hE, hi, h51, hw, evX, Int.reduceEq, Int.reduceLT, Int.reduceLE, Nat.reduceMul, Nat.reduceMod, evW, fn_eq, evR, Nat.reduceAdd, Nat.reduceLT, Nat.reduceLeDiff, reduceIte, Nat.reduceEqDiff, reduceCtorEq, argEnv, eq_self, if_true, if_false]
        exact ⟨_, _, _, rfl, by rfl, by simpa using hO⟩)
    (fun E X rv hE => by
      simp only [c53_l0, hE, Int.lt_irrefl, evX, Int.reduceEq, Int.reduceLT, Int.reduceLE, Nat.reduceMul, Nat.reduceMod, evW, fn_eq, evR, Nat.reduceAdd, Nat.reduceLT, Nat.reduceLeDiff, reduceIte, Nat.reduceEqDiff, reduceCtorEq, argEnv, eq_self, if_true, if_false]
      exact ⟨_, rfl, by rfl⟩) _ [] .nils (.nils ..) (by rfl) (by simp) z hz
  obtain ⟨T, X, rv, rfl, hT, hO⟩ := L
  simp only [hT, out_tup hO, evX, Int.reduceEq, Int.reduceLT, Int.reduceLE, Nat.reduceMul, Nat.reduceMod, evW, fn_eq, evR, Nat.reduceAdd, Nat.reduceLT, Nat.reduceLeDiff, reduceIte, Nat.reduceEqDiff, reduceCtorEq, argEnv, eq_self, if_true, if_false]
  exact frz_out hO H [] (by simp) (fz_rI _)
theorem f47 (x : Pr) (h : x.Ok) (n : Nat) (H : Heap) (hs : Sits H n (bPair x)) : cal (evC cprog) false 47 [.ptr n 0 13 0 0] H = some (.bool (agreeB x), H) := by
  rw [cal_of at47]
  have h53 := f53 x h n H hs
  have hlen := (sIs [] (lostL x)).len
  simp only [List.length_map] at hlen
  have g0 := hs.at
  simp only [bPair, Sits] at hs g0
  simp only [c47, nck_ptr, g0, h53, hlen, str_beq, evX, Int.reduceEq, Int.reduceLT, Int.reduceLE, Nat.reduceMul, Nat.reduceMod, evW, fn_eq, evR, Nat.reduceAdd, Nat.reduceLT, Nat.reduceLeDiff, reduceIte, Nat.reduceEqDiff, reduceCtorEq, argEnv, eq_self, if_true, if_false]
  repeat' ((first | rw [guardK_cases] | rw [condK_bool] | rw [guardD_cases]); split <;> simp only [c47, nck_ptr, g0, h53, hlen, str_beq, evX, Int.reduceEq, Int.reduceLT, Int.reduceLE, Nat.reduceMul, Nat.reduceMod, evW, evR, Nat.reduceAdd, Nat.reduceLT, Nat.reduceLeDiff, reduceIte, Nat.reduceEqDiff, reduceCtorEq, argEnv, eq_self, if_true, if_false, *])
  all_goals (simp_all [agreeB])
end Go.Proofs.Ytbchmbddcdionaa.Code

/- logic: the document's above and lost; what is asked of two forests. -/
set_option linter.unusedSimpArgs false
set_option linter.unusedVariables false
namespace Go.Proofs.Ytbchmbddcdionaa.Code
open Go.Proofs.Ytbchmbddcdionaa.Ev

theorem idxOf_none {α : Type} {p : α → Bool} {l : List α} (h : ∀ (i : Nat) y, l[i]? = some y → p y = false) : idxOf p l = -1 := by
  unfold idxOf
  rw [List.findIdx?_eq_none_iff.2 fun y hy => by
    obtain ⟨i, hi⟩ := List.getElem?_of_mem hy
    exact h i y hi]
theorem idxOf_first {α : Type} {p : α → Bool} : ∀ {l : List α} {i : Nat} {y : α}, l[i]? = some y → p y = true → (∀ (j : Nat) z, j < i → l[j]? = some z → p z = false) → idxOf p l = (i : Int)
  | [], i, y, h, _, _ => by simp at h
  | z :: l, 0, y, h, hp, _ => by
    simp at h; subst h
    simp [idxOf, List.findIdx?_cons, hp]
  | z :: l, i + 1, y, h, hp, hb => by
    have h0 := hb 0 z (by omega) rfl
    have ih := idxOf_first (l := l) (i := i) (by simpa using h) hp fun j u hj hu => hb (j + 1) u (by omega) (by simpa using hu)
    unfold idxOf at ih ⊢
    rw [List.findIdx?_cons, h0]
    simp only [Bool.false_eq_true, if_false]
    cases hf : l.findIdx? p with
    | none => rw [hf] at ih; simp at ih
    | some k => rw [hf] at ih; simp at ih ⊢; omega
theorem f54 (x : Pr) (h : x.Ok) (d : ByteArray) (hd : fits x.a.types ⟨x.l.child, d⟩ = true) (H : Heap) : cal (evC cprog) false 54 [eBase x.a, eBase x.b, eLink x.l, eItems x.g, .str d] H = some (.int .i64 (upI x d), H) := by
  rw [cal_of at54]
  obtain ⟨c, t, k, f, L⟩ := link_at h.va h.li
  obtain ⟨hl, hf⟩ := forest_fits h.g
  have l5 := L.child
  have l6 := L.field
  rw [l5] at hd
  have h78 := f78g x.a h.a h.va c t L.ty k f L.fld L.at0 L.b1 L.fit L.le d hd
  rw [← l5, ← l6, show d.extract f.at'.toNat (f.at' + f.bytes).toNat = kOf x d by unfold kOf; rw [L.linkFd]] at h78
  simp only [eBase] at h78
  have hlen := (sItems [] x.g).len
  simp only [List.length_map] at hlen
  simp only [c54, eBase, eLink, h78, evX, Int.reduceEq, Int.reduceLT, Int.reduceLE, Nat.reduceMul, Nat.reduceMod, evW, fn_eq, evR, Nat.reduceAdd, Nat.reduceLT, Nat.reduceLeDiff, reduceIte, Nat.reduceEqDiff, reduceCtorEq, argEnv, eq_self, if_true, if_false]
  generalize hz : itLim _ _ = z
  have key : ∀ (H' : Heap) (b1 : Nat), Sits H' b1 (bBase x.b) → ∀ (st : St) (G : Heap), keepEnv st.1 [3, 6, 11, 14] = [(3, eItems x.g), (6, .ptr b1 0 4 0 0), (11, .str (kOf x d)), (14, .int .i64 0)] → st.2 = H' ++ ([] ++ G) → ∀ z, itLim (evCode (evC cprog) itLim c54_l0) st = z →
      ((∀ (i : Nat) (y : Item), x.g[i]? = some y → (!isRoot x.b (kOf x d) y) = true) ∧ Lv H' [] (fun c T => c = .exit 0) z) ∨ (∃ (i : Nat) (y : Item), x.g[i]? = some y ∧ (!isRoot x.b (kOf x d) y) = false ∧ (∀ (j : Nat) (z : Item), j < i → x.g[j]? = some z → (!isRoot x.b (kOf x d) z) = true) ∧ Lv H' [] (fun c T => c = .ret ∧ get T 10 = some (.int .i64 (i : Int))) z) := by
    intro H' b1 hs st G hE hH z hz
    simp only [bBase, Sits] at hs
    refine scan_rule x.g (fun _ y => !isRoot x.b (kOf x d) y) [3, 6, 11, 14] (fun i => [(3, eItems x.g), (6, .ptr b1 0 4 0 0), (11, .str (kOf x d)), (14, .int .i64 (i : Int))]) H' [] (evCode (evC cprog) itLim c54_l0) _ (fun i _ c T => c = .ret ∧ get T 10 = some (.int .i64 (i : Int)))
      (fun i y hy E G hE => ?_)
      (fun E G hE => by
        simp only [c54_l0, hE, hlen, Int.lt_irrefl, evX, Int.reduceEq, Int.reduceLT, Int.reduceLE, Nat.reduceMul, Nat.reduceMod, evW, fn_eq, evR, Nat.reduceAdd, Nat.reduceLT, Nat.reduceLeDiff, reduceIte, Nat.reduceEqDiff, reduceCtorEq, argEnv, eq_self, if_true, if_false]
        exact .exit (K := []) rfl) st G hE hH z hz
    have hlt : i < x.g.length := (List.getElem?_eq_some_iff.1 hy).1
    have hi : (i : Int) < (x.g.length : Int) := by omega
    have hw := wrapS hlt (by omega)
    have ha := aItem hy
    have hfy := hf i y hy
    obtain ⟨m, u, hm, _, hu, _⟩ := fits_some hfy
    have h79 := f79 x.b h.b h.vb m u hu (tyOk_at (valid_tys h.vb) hu) y.data
    rw [show (⟨(m : Int), y.data⟩ : Item) = y by cases y; simp_all, if_pos hfy, ← hm] at h79
    simp only [eBase] at h79
    by_cases ht : y.type = 0
    · have hrt : rootTy x.b = u := by
        have : m = 0 := by omega
        subst this
        exact tyOf_at hu
      rw [ht] at h79
      by_cases hk : keyOf u y.data = kOf x d
      · have : isRoot x.b (kOf x d) y = true := by simp [isRoot, ht, hrt, hk]
        simp only [this]
        simp only [c54_l0, hE, hi, hlen, hs, ha, rItem, ht, h79, hk, evX, Int.reduceEq, Int.reduceLT, Int.reduceLE, Nat.reduceMul, Nat.reduceMod, evW, fn_eq, evR, Nat.reduceAdd, Nat.reduceLT, Nat.reduceLeDiff, reduceIte, Nat.reduceEqDiff, reduceCtorEq, argEnv, eq_self, if_true, if_false]
        all_goals exact Sc.ret rfl ⟨rfl, rfl⟩
      · have : isRoot x.b (kOf x d) y = false := by simp [isRoot, ht, hrt, hk]
        simp only [this]
        simp only [c54_l0, hE, hi, hlen, hs, ha, rItem, ht, h79, hk, hw, evX, Int.reduceEq, Int.reduceLT, Int.reduceLE, Nat.reduceMul, Nat.reduceMod, evW, fn_eq, evR, Nat.reduceAdd, Nat.reduceLT, Nat.reduceLeDiff, reduceIte, Nat.reduceEqDiff, reduceCtorEq, argEnv, eq_self, if_true, if_false]
        all_goals exact Sc.next rfl (by rfl)
    · have : isRoot x.b (kOf x d) y = false := by simp [isRoot, ht]
      simp only [this]
      simp only [c54_l0, hE, hi, hlen, hs, ha, rItem, ht, h79, hw, evX, Int.reduceEq, Int.reduceLT, Int.reduceLE, Nat.reduceMul, Nat.reduceMod, evW, fn_eq, evR, Nat.reduceAdd, Nat.reduceLT, Nat.reduceLeDiff, reduceIte, Nat.reduceEqDiff, reduceCtorEq, argEnv, eq_self, if_true, if_false]
      all_goals exact Sc.next rfl (by rfl)
  rcases key (H ++ [bBase x.a, bBase x.b, bLink x.l]) (H.length + 1) (.mk (by simp)) _ [] (by rfl) (by simp [bBase, bLink]) z hz with ⟨ha, c, T, G, rfl, _, rfl⟩ | ⟨i, y, hy, hn, hb, c, T, G, rfl, _, rfl, hT⟩
  · simp only [evX, Int.reduceEq, Int.reduceLT, Int.reduceLE, Nat.reduceMul, Nat.reduceMod, evW, fn_eq, evR, Nat.reduceAdd, Nat.reduceLT, Nat.reduceLeDiff, reduceIte, Nat.reduceEqDiff, reduceCtorEq, argEnv, eq_self, if_true, if_false]
    have : upI x d = -1 := idxOf_none fun i y hy => by have := ha i y hy; simpa using this
    rw [this]
  · simp only [hT, evX, Int.reduceEq, Int.reduceLT, Int.reduceLE, Nat.reduceMul, Nat.reduceMod, evW, fn_eq, evR, Nat.reduceAdd, Nat.reduceLT, Nat.reduceLeDiff, reduceIte, Nat.reduceEqDiff, reduceCtorEq, argEnv, eq_self, if_true, if_false]
    have : upI x d = (i : Int) := idxOf_first hy (by simpa using hn) fun j z hj hz => by have := hb j z hj hz; simpa using this
    rw [this]
theorem f49 (x : Pr) (h : x.Ok) (H : Heap) : cal (evC cprog) true 49 [eBase x.a, eBase x.b, eLink x.l, eItems x.f, eItems x.g] H = some (eIs (lostL x), H) := by
  rw [cal_of at49]
  obtain ⟨hl, hf⟩ := forest_fits h.f
  have hlen := (sItems [] x.f).len
  simp only [List.length_map] at hlen
  simp only [c49, eBase, eLink, evX, Int.reduceEq, Int.reduceLT, Int.reduceLE, Nat.reduceMul, Nat.reduceMod, evW, fn_eq, evR, Nat.reduceAdd, Nat.reduceLT, Nat.reduceLeDiff, reduceIte, Nat.reduceEqDiff, reduceCtorEq, argEnv, eq_self, if_true, if_false]
  generalize hz : itLim _ _ = z
  have key : ∀ (H' : Heap) (n : Nat), Sits H' n (bBase x.a) → Sits H' (n + 1) (bBase x.b) → Sits H' (n + 2) (bLink x.l) → ∀ (st : St), keepEnv st.1 [3, 4, 5, 6, 7, 11, 12] = [(3, eItems x.f), (4, eItems x.g), (5, .ptr n 0 4 0 0), (6, .ptr (n + 1) 0 4 0 0), (7, .ptr (n + 2) 0 3 0 0), (11, .nils), (12, .int .i64 0)] → st.2 = H' ++ [] → ∀ z, itLim (evCode (evC cprog) itLim c49_l0) st = z →
      ∃ T X rv, z = some (.exit 0, T, H' ++ X) ∧ keepEnv T [11] = [(11, rv)] ∧ Out H'.length 1 3 X rv ((lostL x).map rI) := by
    intro H' n h1 h2 h3 st hE hH z hz
    simp only [bBase, bLink, Sits] at h1 h2 h3
    refine gath_rule x.f (fun i y => if isLost x y = true then [(i : Int)] else []) rI [3, 4, 5, 6, 7, 11, 12] (fun i rv => [(3, eItems x.f), (4, eItems x.g), (5, .ptr n 0 4 0 0), (6, .ptr (n + 1) 0 4 0 0), (7, .ptr (n + 2) 0 3 0 0), (11, rv), (12, .int .i64 (i : Int))]) H' 1 3 (evCode (evC cprog) itLim c49_l0) 0 [11] (fun rv => [(11, rv)])
      (fun i y hy E X rv hE hO => ?_)
      (fun E X rv hE => by
        simp only [c49_l0, hE, hlen, Int.lt_irrefl, evX, Int.reduceEq, Int.reduceLT, Int.reduceLE, Nat.reduceMul, Nat.reduceMod, evW, fn_eq, evR, Nat.reduceAdd, Nat.reduceLT, Nat.reduceLeDiff, reduceIte, Nat.reduceEqDiff, reduceCtorEq, argEnv, eq_self, if_true, if_false]
        exact ⟨_, rfl, by rfl⟩) st [] .nils (.nils ..) hE hH z hz
    have hlt : i < x.f.length := (List.getElem?_eq_some_iff.1 hy).1
    have hi : (i : Int) < (x.f.length : Int) := by omega
    have hw := wrapS hlt (by omega)
    have ha := aItem hy
    by_cases hc : y.type = x.l.child
    · have h54 := f54 x h y.data (by rw [← hc]; exact hf i y hy)
      simp only [eBase, eLink] at h54
      by_cases hu : upI x y.data < 0
      · have hlost : isLost x y = true := by simp [isLost, hc, hu]
        rw [if_pos hlost]
        obtain ⟨rv', X', a1, a2, a3⟩ := app_int hO H' rfl (by
          have := gath_len (fun i y => if isLost x y = true then [(i : Int)] else []) (fun i y => by split <;> simp) (x.f.take i) 0
          rw [List.length_take] at this; omega) (i : Int)
        simp only [c49_l0, hE, hi, hlen, h1, h2, h3, ha, rItem, hc, h54, hu, a1, a2, hw, evX, Int.reduceEq, Int.reduceLT, Int.reduceLE, Nat.reduceMul, Nat.reduceMod, evW, fn_eq, evR, Nat.reduceAdd, Nat.reduceLT, Nat.reduceLeDiff, reduceIte, Nat.reduceEqDiff, reduceCtorEq, argEnv, eq_self, if_true, if_false]
        exact ⟨_, _, _, rfl, by rfl, by simpa using a3⟩
      · have hlost : isLost x y = false := by simp [isLost, hu]
        rw [if_neg (by rw [hlost]; simp)]
        simp only [c49_l0, hE, hi, hlen, h1, h2, h3, ha, rItem, hc, h54, hu, hw, evX, Int.reduceEq, Int.reduceLT, Int.reduceLE, Nat.reduceMul, Nat.reduceMod, evW, fn_eq, evR, Nat.reduceAdd, Nat.reduceLT, Nat.reduceLeDiff, reduceIte, Nat.reduceEqDiff, reduceCtorEq, argEnv, eq_self, if_true, if_false]
        exact ⟨_, _, _, rfl, by rfl, by simpa using hO⟩
    · have hlost : isLost x y = false := by simp [isLost, hc]
      rw [if_neg (by rw [hlost]; simp)]
      simp only [c49_l0, hE, hi, hlen, h1, h2, h3, ha, rItem, hc, hw, evX, Int.reduceEq, Int.reduceLT, Int.reduceLE, Nat.reduceMul, Nat.reduceMod, evW, fn_eq, evR, Nat.reduceAdd, Nat.reduceLT, Nat.reduceLeDiff, reduceIte, Nat.reduceEqDiff, reduceCtorEq, argEnv, eq_self, if_true, if_false]
      exact ⟨_, _, _, rfl, by rfl, by simpa using hO⟩
  obtain ⟨T, X, rv, rfl, hT, hO⟩ := key (H ++ [bBase x.a, bBase x.b, bLink x.l]) H.length (.mk (by simp)) (.mk (by simp)) (.mk (by simp)) _ (by rfl) (by simp [bBase, bLink]) z hz
  simp only [hT, out_tup hO, evX, Int.reduceEq, Int.reduceLT, Int.reduceLE, Nat.reduceMul, Nat.reduceMod, evW, fn_eq, evR, Nat.reduceAdd, Nat.reduceLT, Nat.reduceLeDiff, reduceIte, Nat.reduceEqDiff, reduceCtorEq, argEnv, eq_self, if_true, if_false]
  exact frz_out hO H [bBase x.a, bBase x.b, bLink x.l] (by simp) (fz_rI _)
structure Pr.Raw (x : Pr) : Prop where
  a : x.a.Ok
  b : x.b.Ok
  f : x.f.length < 9223372036854775807
  g : x.g.length < 9223372036854775807
noncomputable def openE (x : Pr) : Int := if (validB x.a && validB x.b) = true then (if isLink x.a x.b x.l = true then (if (forestOk x.a.types x.f && forestOk x.b.types x.g) = true then 0 else 120) else 180) else 100
noncomputable def askE (x : Pr) : Int := if openE x = 0 then (if agreeB x = true then 0 else 120) else openE x
theorem open_ok {x : Pr} (hr : x.Raw) (h : openE x = 0) : x.Ok := by
  unfold openE at h
  split at h
  · rename_i hv
    split at h
    · rename_i hl
      split at h
      · rename_i hf
        simp only [Bool.and_eq_true] at hv hf
        exact ⟨hr.a, hr.b, hv.1, hv.2, hl, hf.1, hf.2⟩
      · cases h
    · cases h
  · cases h
theorem nil_slat (H : Heap) : SlAt H 1 .nils (([] : List Int).map rI) := out_slat (.nils 0 1 3 H) [] rfl (by simp)
theorem errF_nil {b : Base} {f : List Item} (hv : validB b = true) : errF b f [] = if forestOk b.types f = true then 0 else 120 := by
  unfold errF
  rw [if_pos hv]
  simp
theorem f48 (x : Pr) (h : x.Raw) (H : Heap) : cal (evC cprog) false 48 [eBase x.a, eBase x.b, eLink x.l, eItems x.f, eItems x.g] H = some (.int .i64 (openE x), H) := by
  rw [cal_of at48]
  have h1 := f44 x.a h.a
  have h2 := f44 x.b h.b
  simp only [eBase] at h1 h2
  cases va : validB x.a with
  | false =>
    simp only [c48, eBase, eLink, h1, va, evX, Int.reduceEq, Int.reduceLT, Int.reduceLE, Nat.reduceMul, Nat.reduceMod, evW, fn_eq, evR, Nat.reduceAdd, Nat.reduceLT, Nat.reduceLeDiff, reduceIte, Nat.reduceEqDiff, reduceCtorEq, argEnv, eq_self, if_true, if_false]
    simp [openE, va]
  | true =>
    cases vb : validB x.b with
    | false =>
      simp only [c48, eBase, eLink, h1, h2, va, vb, evX, Int.reduceEq, Int.reduceLT, Int.reduceLE, Nat.reduceMul, Nat.reduceMod, evW, fn_eq, evR, Nat.reduceAdd, Nat.reduceLT, Nat.reduceLeDiff, reduceIte, Nat.reduceEqDiff, reduceCtorEq, argEnv, eq_self, if_true, if_false]
      simp [openE, vb]
    | true =>
      have h3 := f45 va vb x.l
      simp only [eBase, eLink] at h3
      cases hl : isLink x.a x.b x.l with
      | false =>
        simp only [c48, eBase, eLink, h1, h2, h3, va, vb, hl, evX, Int.reduceEq, Int.reduceLT, Int.reduceLE, Nat.reduceMul, Nat.reduceMod, evW, fn_eq, evR, Nat.reduceAdd, Nat.reduceLT, Nat.reduceLeDiff, reduceIte, Nat.reduceEqDiff, reduceCtorEq, argEnv, eq_self, if_true, if_false]
        simp [openE, va, vb, hl]
      | true =>
        have h4 := fun H => f67 x.a h.a x.f h.f .nils [] (by simp) H (nil_slat H)
        have h5 := fun H => f67 x.b h.b x.g h.g .nils [] (by simp) H (nil_slat H)
        simp only [eBase, errF_nil va, errF_nil vb] at h4 h5
        cases hf : forestOk x.a.types x.f with
        | false =>
          simp only [hf, Bool.false_eq_true, if_false] at h4
          simp only [c48, eBase, eLink, h1, h2, h3, h4, va, vb, hl, evX, Int.reduceEq, Int.reduceLT, Int.reduceLE, Nat.reduceMul, Nat.reduceMod, evW, fn_eq, evR, Nat.reduceAdd, Nat.reduceLT, Nat.reduceLeDiff, reduceIte, Nat.reduceEqDiff, reduceCtorEq, argEnv, eq_self, if_true, if_false]
          simp [openE, va, vb, hl, hf]
        | true =>
          simp only [hf, if_true] at h4
          cases hg : forestOk x.b.types x.g with
          | false =>
            simp only [hg, Bool.false_eq_true, if_false] at h5
            simp only [c48, eBase, eLink, h1, h2, h3, h4, h5, va, vb, hl, evX, Int.reduceEq, Int.reduceLT, Int.reduceLE, Nat.reduceMul, Nat.reduceMod, evW, fn_eq, evR, Nat.reduceAdd, Nat.reduceLT, Nat.reduceLeDiff, reduceIte, Nat.reduceEqDiff, reduceCtorEq, argEnv, eq_self, if_true, if_false]
            simp [openE, va, vb, hl, hf, hg]
          | true =>
            simp only [hg, if_true] at h5
            simp only [c48, eBase, eLink, h1, h2, h3, h4, h5, va, vb, hl, evX, Int.reduceEq, Int.reduceLT, Int.reduceLE, Nat.reduceMul, Nat.reduceMod, evW, fn_eq, evR, Nat.reduceAdd, Nat.reduceLT, Nat.reduceLeDiff, reduceIte, Nat.reduceEqDiff, reduceCtorEq, argEnv, eq_self, if_true, if_false]
            simp [openE, va, vb, hl, hf, hg]
theorem f18 (x : Pr) (h : x.Raw) (H : Heap) : cal (evC cprog) false 18 [eBase x.a, eBase x.b, eLink x.l, eItems x.f, eItems x.g] H = some (.int .i64 (askE x), H) := by
  rw [cal_of at18]
  have h48 := f48 x h
  simp only [eBase, eLink] at h48
  by_cases h0 : openE x = 0
  · have h49 := f49 x (open_ok h h0)
    have hlen := (sIs [] (lostL x)).len
    simp only [List.length_map] at hlen
    simp only [eBase, eLink] at h49
    rw [h0] at h48
    unfold askE
    rw [if_pos h0]
    by_cases hr : x.l.rule = ⟨#[76]⟩
    · simp only [hr] at h48
      simp only [c18, eBase, eLink, h48, hr, evX, Int.reduceEq, Int.reduceLT, Int.reduceLE, Nat.reduceMul, Nat.reduceMod, evW, fn_eq, evR, Nat.reduceAdd, Nat.reduceLT, Nat.reduceLeDiff, reduceIte, Nat.reduceEqDiff, reduceCtorEq, argEnv, eq_self, if_true, if_false]
      all_goals simp [agreeB, hr]
    · by_cases hn : (lostL x).length = 0
      · have hn' : ¬ (0 : Int) < ((lostL x).length : Int) := by omega
        simp only [c18, eBase, eLink, h48, hr, h49, hlen, hn', evX, Int.reduceEq, Int.reduceLT, Int.reduceLE, Nat.reduceMul, Nat.reduceMod, evW, fn_eq, evR, Nat.reduceAdd, Nat.reduceLT, Nat.reduceLeDiff, reduceIte, Nat.reduceEqDiff, reduceCtorEq, argEnv, eq_self, if_true, if_false]
        all_goals simp [agreeB, hn]
      · have hn' : (0 : Int) < ((lostL x).length : Int) := by omega
        simp only [c18, eBase, eLink, h48, hr, h49, hlen, hn', evX, Int.reduceEq, Int.reduceLT, Int.reduceLE, Nat.reduceMul, Nat.reduceMod, evW, fn_eq, evR, Nat.reduceAdd, Nat.reduceLT, Nat.reduceLeDiff, reduceIte, Nat.reduceEqDiff, reduceCtorEq, argEnv, eq_self, if_true, if_false]
        all_goals simp [agreeB, hr, hn]
  · unfold askE
    rw [if_neg h0]
    simp only [c18, eBase, eLink, h48, h0, evX, Int.reduceEq, Int.reduceLT, Int.reduceLE, Nat.reduceMul, Nat.reduceMod, evW, fn_eq, evR, Nat.reduceAdd, Nat.reduceLT, Nat.reduceLeDiff, reduceIte, Nat.reduceEqDiff, reduceCtorEq, argEnv, eq_self, if_true, if_false]
end Go.Proofs.Ytbchmbddcdionaa.Code

/- logic: roots have keys of their own. -/
set_option linter.unusedSimpArgs false
set_option linter.unusedVariables false
namespace Go.Proofs.Ytbchmbddcdionaa.Code
open Go.Proofs.Ytbchmbddcdionaa.Ev

theorem less_trans : ∀ x y z : List UInt8, Op.bytesLess x y = true → Op.bytesLess y z = true → Op.bytesLess x z = true
  | x, y, [], _, h2 => by cases y <;> simp [Op.bytesLess] at h2
  | [], _, c :: z, _, _ => by simp [Op.bytesLess]
  | a :: x, [], c :: z, h1, _ => by simp [Op.bytesLess] at h1
  | a :: x, b :: y, c :: z, h1, h2 => by
    simp only [Op.bytesLess, Bool.or_eq_true, decide_eq_true_eq, Bool.and_eq_true, beq_iff_eq] at h1 h2 ⊢
    rcases h1 with h1 | ⟨rfl, h1⟩ <;> rcases h2 with h2 | ⟨rfl, h2⟩
    · exact .inl (by rw [UInt8.lt_iff_toNat_lt] at *; omega)
    · exact .inl h1
    · exact .inl h2
    · exact .inr ⟨rfl, less_trans x y z h1 h2⟩
theorem inOrd_trans {t : Ty} {a c d : ByteArray} (h1 : inOrd t a c = true) (h2 : inOrd t c d = true) : inOrd t a d = true := by
  simp only [inOrd, Bool.or_eq_true, decide_eq_true_eq, Bool.and_eq_true] at *
  rcases h1 with (h1 | h1) | ⟨h1, h1'⟩
  · exact .inl (.inl h1)
  · rcases h2 with (h2 | h2) | ⟨h2, _⟩
    · exact .inl (.inl h2)
    · exact .inl (.inr (less_trans _ _ _ h1 h2))
    · rw [← h2]; exact .inl (.inr h1)
  · rcases h2 with (h2 | h2) | ⟨h2, h2'⟩
    · exact .inl (.inl h2)
    · rw [h1]; exact .inl (.inr h2)
    · exact .inr ⟨h1.trans h2, h1'⟩
theorem ord_trans {ts : List Ty} {f : List Item} {c : Int} {j : Nat} {y x : Item} (hy : f[j]? = some y) (h1 : ordOk ts f c y = true) (h2 : ordOk ts f (j : Int) x = true) : ordOk ts f c x = true := by
  simp only [ordOk, Bool.or_eq_true, decide_eq_true_eq, Bool.and_eq_true, typ_at hy, dat_at hy] at *
  rcases h1 with h1 | ⟨h1, h1'⟩ <;> rcases h2 with h2 | ⟨h2, h2'⟩
  · exact .inl (by omega)
  · exact .inl (by omega)
  · exact .inl (by omega)
  · exact .inr ⟨by omega, by rw [h2] at h1'; exact inOrd_trans h1' h2'⟩
/-- the child of an item's parent on an earlier way may stand ahead of it -/
theorem sib_far {b : Base} {f : List Item} (h : Right b f) {i : Nat} {x : Item} (hx : f[i]? = some x) : ∀ (n j : Nat), i - 1 - j = n → j < i → (par b.types f i < 0 ∨ par b.types f i ∈ pth b.types f j) → ∀ c, (pth b.types f j)[nOf b.types f i]? = some c → ordOk b.types f c x = true := by
  have hi := (List.getElem?_eq_some_iff.1 hx).1
  have hok := h.ok i x hi hx
  intro n
  induction n with
  | zero =>
    intro j hn hj _ c hc
    obtain ⟨i, rfl⟩ : ∃ i', i = i' + 1 := ⟨i - 1, by omega⟩
    obtain rfl : j = i := by omega
    simp only [okAt, Bool.and_eq_true] at hok
    have := hok.2
    have hw : (way b.types f (j + 1))[nOf b.types f (j + 1)]? = some c := hc
    simpa only [sibOk, hw] using this
  | succ n ih =>
    intro j hn hj hp c hc
    have hj1 : j + 1 < f.length := by omega
    obtain ⟨y, hy⟩ : ∃ y, f[j + 1]? = some y := ⟨_, List.getElem?_eq_getElem hj1⟩
    obtain ⟨hcut, hle⟩ := way_cut h hj1
    change pth b.types f (j + 1) = (pth b.types f j).take _ ++ _ at hcut
    change _ ≤ (pth b.types f j).length at hle
    have hb := par_lt b.types f i
    -- the parent is on the next way too
    have hp' : par b.types f i < 0 ∨ par b.types f i ∈ pth b.types f (j + 1) := by
      rcases hp with hp | hp
      · exact .inl hp
      · by_cases h0 : par b.types f i < 0
        · exact .inl h0
        · have hbp := pth_bound hp
          have hm := ok_par hx hok (by omega)
          obtain ⟨i', rfl⟩ : ∃ i', i = i' + 1 := ⟨i - 1, by omega⟩
          exact .inr (way_between (Nat.le_refl _) h.ok i' (by omega) _ hm (j + 1) (by omega) (by omega))
    have hS := ih (j + 1) (by omega) (by omega) hp'
    rcases Nat.lt_trichotomy (nOf b.types f i) (nOf b.types f (j + 1)) with hlt | heq | hgt
    · refine hS c ?_
      rw [hcut, List.getElem?_append_left (by rw [List.length_take]; omega), List.getElem?_take, if_pos hlt]; exact hc
    · have h1 : ordOk b.types f ((j + 1 : Nat) : Int) x = true := hS _ (by
        rw [hcut, List.getElem?_append_right (by rw [List.length_take]; omega), List.length_take, Nat.min_eq_left hle, heq]; simp)
      have h2 := h.ok (j + 1) y hj1 hy
      simp only [okAt, Bool.and_eq_true] at h2
      have h3 := h2.2
      have hw : (way b.types f (j + 1))[nOf b.types f (j + 1)]? = some c := by rw [← heq]; exact hc
      simp only [sibOk, hw] at h3
      exact ord_trans hy h3 h1
    · exfalso
      rcases hp' with h0 | hm
      · have : nOf b.types f i = 0 := by unfold nOf; rw [pthI_neg _ _ h0]; rfl
        omega
      · have hbp := pth_bound hm
        rcases hp with hp | hp
        · omega
        have hbj := pth_bound hp
        obtain ⟨q, hq⟩ : ∃ q : Nat, par b.types f i = (q : Int) := ⟨(par b.types f i).toNat, by omega⟩
        have hno : nOf b.types f i = (pth b.types f q).length := by unfold nOf; rw [hq, pthI_nat]
        rw [hq] at hm
        obtain ⟨m, hmm⟩ := List.getElem?_of_mem hm
        have ht : (pth b.types f (j + 1)).take (m + 1) = pth b.types f q := take_anc (pts b.types f) (good_pts b.types f) (by rw [pts_len]; exact Nat.le_refl _) (j + 1) (j + 1) (Nat.le_refl _) (by omega) m _ hmm
        have hml := (List.getElem?_eq_some_iff.1 hmm).1
        have hmn : (pth b.types f q).length = m + 1 := by rw [← ht, List.length_take]; omega
        rw [hcut] at hml hmm
        simp only [List.length_append, List.length_take, Nat.min_eq_left hle, List.length_singleton] at hml
        have e : m = nOf b.types f (j + 1) := by omega
        rw [List.getElem?_append_right (by rw [List.length_take]; omega), List.length_take, Nat.min_eq_left hle, e] at hmm
        simp at hmm
        omega
theorem root_uniq {b : Base} (h : validB b = true) : ∃ r, b.types[0]? = some r ∧ 0 ≤ r.key ∧ r.unique = true := by
  have ht := valid_tys h
  simp only [validB, areTys, Bool.and_eq_true, decide_eq_true_eq] at h
  obtain ⟨r, hr⟩ : ∃ r, b.types[0]? = some r := ⟨_, List.getElem?_eq_getElem (by omega)⟩
  have h1 := tell_true.1 ht 0 r hr
  simp only [tyAt, Bool.and_eq_true, if_true, rootOk, decide_eq_true_eq] at h1
  exact ⟨r, hr, h1.1.2.1.1.2, h1.1.2.1.2⟩
/-- two roots have two keys -/
theorem roots_apart {b : Base} {f : List Item} (h : Right b f) {i j : Nat} {x y : Item} (hx : f[i]? = some x) (hy : f[j]? = some y) (tx : x.type = 0) (ty : y.type = 0) (hk : keyOf (rootTy b) x.data = keyOf (rootTy b) y.data) : i = j := by
  have key : ∀ (i j : Nat) (x y : Item), f[i]? = some x → f[j]? = some y → x.type = 0 → y.type = 0 → keyOf (rootTy b) x.data = keyOf (rootTy b) y.data → ¬ j < i := by
    intro i j x y hx hy tx ty hk hlt
    obtain ⟨r, hr, hr0, hru⟩ := root_uniq h.valid
    have hrt : rootTy b = r := tyOf_at hr
    have hpar : ∀ k z, f[k]? = some z → z.type = 0 → par b.types f k < 0 := by
      intro k z hz tz
      unfold par
      rw [typ_at hz, tz]
      have hp : tpar b.types 0 = r.parent := tpar_at hr
      have := (tys_root (valid_tys h.valid) hr).2 rfl
      rw [hp, if_pos this]; omega
    have hpi := hpar i x hx tx
    have hpj := hpar j y hy ty
    have hn : nOf b.types f i = 0 := by
      unfold nOf
      rw [pthI, ancI_neg _ hpi]; rfl
    have hjl := (List.getElem?_eq_some_iff.1 hy).1
    have hpth : pth b.types f j = [(j : Int)] := by
      rw [pth_eq b.types f hjl, pthI, ancI_neg _ hpj]; rfl
    have hs := sib_far h hx (i - 1 - j) j rfl hlt (.inl hpi) (j : Int) (by rw [hn, hpth]; rfl)
    unfold ordOk at hs
    rw [typ_at hy, dat_at hy, tx, ty, show tyOf b.types 0 = r from tyOf_at hr] at hs
    rw [hrt] at hk
    simp only [inOrd, hk, hru, Int.lt_irrefl, decide_false, Bool.false_or, decide_true, Bool.true_and, Bool.not_true, Bool.and_false, Bool.or_false, Bool.or_eq_true, decide_eq_true_eq] at hs
    rcases hs with hs | hs
    · omega
    · rw [bLt_irrefl] at hs; cases hs
  rcases Nat.lt_trichotomy i j with hij | hij | hij
  · exact absurd hij (key j i y x hy hx ty tx hk.symm)
  · exact hij
  · exact absurd hij (key i j x y hx hy tx ty hk)
end Go.Proofs.Ytbchmbddcdionaa.Code

/- logic: pairs opened; children. -/
set_option linter.unusedSimpArgs false
set_option linter.unusedVariables false
namespace Go.Proofs.Ytbchmbddcdionaa.Code
open Go.Proofs.Ytbchmbddcdionaa.Ev

theorem nr1_ptr (b v s i o : Nat) : noRef1 (.ptr b v s i o) = false := rfl
theorem f46_err (x : Pr) (h : x.Raw) (he : openE x ≠ 0) (H : Heap) : cal (evC cprog) false 46 [eBase x.a, eBase x.b, eLink x.l, eItems x.f, eItems x.g] H = some (.tup [.nilptr, .int .i64 (openE x)], H) := by
  rw [cal_of at46]
  have h14 := f14 x.a x.b h.a h.b x.l
  have h1 := f76 x.a h.a x.f
  have h2 := f76 x.b h.b x.g
  simp only [eBase, eLink, bEr] at h14 h1 h2
  cases va : validB x.a with
  | false =>
    simp only [va, Bool.false_and, Bool.false_eq_true, if_false] at h14
    simp only [c46, eBase, eLink, h14, evX, Int.reduceEq, Int.reduceLT, Int.reduceLE, Nat.reduceMul, Nat.reduceMod, evW, fn_eq, evR, Nat.reduceAdd, Nat.reduceLT, Nat.reduceLeDiff, reduceIte, Nat.reduceEqDiff, reduceCtorEq, argEnv, eq_self, if_true, if_false]
    all_goals simp_all [openE]
  | true =>
    cases vb : validB x.b with
    | false =>
      simp only [va, vb, Bool.and_false, Bool.false_and, Bool.false_eq_true, if_false] at h14
      simp only [c46, eBase, eLink, h14, evX, Int.reduceEq, Int.reduceLT, Int.reduceLE, Nat.reduceMul, Nat.reduceMod, evW, fn_eq, evR, Nat.reduceAdd, Nat.reduceLT, Nat.reduceLeDiff, reduceIte, Nat.reduceEqDiff, reduceCtorEq, argEnv, eq_self, if_true, if_false]
      all_goals simp_all [openE]
    | true =>
      cases hl : isLink x.a x.b x.l with
      | false =>
        simp only [va, vb, hl, Bool.and_true, Bool.and_false, if_true] at h14
        simp only [c46, eBase, eLink, h14, evX, Int.reduceEq, Int.reduceLT, Int.reduceLE, Nat.reduceMul, Nat.reduceMod, evW, fn_eq, evR, Nat.reduceAdd, Nat.reduceLT, Nat.reduceLeDiff, reduceIte, Nat.reduceEqDiff, reduceCtorEq, argEnv, eq_self, if_true, if_false]
        all_goals simp_all [openE]
      | true =>
        simp only [va, vb, hl, Bool.and_true, if_true, Bool.true_and] at h14 h1 h2
        cases hf : forestOk x.a.types x.f with
        | false =>
          simp only [hf] at h1
          simp only [c46, eBase, eLink, h14, h1, h2, evX, Int.reduceEq, Int.reduceLT, Int.reduceLE, Nat.reduceMul, Nat.reduceMod, evW, fn_eq, evR, Nat.reduceAdd, Nat.reduceLT, Nat.reduceLeDiff, reduceIte, Nat.reduceEqDiff, reduceCtorEq, argEnv, eq_self, if_true, if_false]
          all_goals simp_all [openE]
        | true =>
          simp only [hf] at h1
          cases hg : forestOk x.b.types x.g with
          | false =>
            simp only [hg] at h2
            simp only [c46, eBase, eLink, h14, h1, h2, evX, Int.reduceEq, Int.reduceLT, Int.reduceLE, Nat.reduceMul, Nat.reduceMod, evW, fn_eq, evR, Nat.reduceAdd, Nat.reduceLT, Nat.reduceLeDiff, reduceIte, Nat.reduceEqDiff, reduceCtorEq, argEnv, eq_self, if_true, if_false]
            all_goals simp_all [openE]
          | true => simp [openE, va, vb, hl, hf, hg] at he
theorem f46_ok (x : Pr) (h : x.Ok) (H : Heap) : cal (evC cprog) false 46 [eBase x.a, eBase x.b, eLink x.l, eItems x.f, eItems x.g] H = some (.tup [.ptr (H.length + 3) 0 13 0 0, .int .i64 0], H ++ [bBase x.a, bBase x.b, bLink x.l, bPair x]) := by
  rw [cal_of at46]
  have h14 := f14 x.a x.b h.a h.b x.l
  have h1 := f76 x.a h.a x.f
  have h2 := f76 x.b h.b x.g
  have va := h.va
  have vb := h.vb
  have hl := h.li
  have hf := h.f
  have hg := h.g
  simp only [eBase, eLink, bEr, va, vb, hl, hf, hg, Bool.and_true, if_true] at h14 h1 h2
  simp only [c46, eBase, eLink, h14, h1, h2, nr1_ptr, cells_eItems, isTup_eItems, evX, Int.reduceEq, Int.reduceLT, Int.reduceLE, Nat.reduceMul, Nat.reduceMod, evW, fn_eq, evR, Nat.reduceAdd, Nat.reduceLT, Nat.reduceLeDiff, reduceIte, Nat.reduceEqDiff, reduceCtorEq, argEnv, eq_self, if_true, if_false]
  all_goals simp [bBase, bLink, bPair]
theorem f35_err (x : Pr) (h : x.Raw) (he : askE x ≠ 0) (H : Heap) : cal (evC cprog) false 35 [eBase x.a, eBase x.b, eLink x.l, eItems x.f, eItems x.g] H = some (.tup [.nilptr, .int .i64 (askE x)], H) := by
  rw [cal_of at35]
  by_cases h0 : openE x = 0
  · have h46 := f46_ok x (open_ok h h0)
    have h47 := fun X => f47 x (open_ok h h0) (H.length + 6) (H ++ [bBase x.a, bBase x.b, bLink x.l, bBase x.a, bBase x.b, bLink x.l, bPair x] ++ X) ((Sits.mk (by simp)).app X)
    have h47 := h47 []
    simp only [eBase, eLink, bBase, bLink, bPair, List.append_nil] at h46 h47
    unfold askE at he ⊢
    rw [if_pos h0] at he ⊢
    cases ha : agreeB x with
    | true => simp [ha] at he
    | false =>
      rw [ha] at h47
      simp only [c35, eBase, eLink, h46, h47, evX, Int.reduceEq, Int.reduceLT, Int.reduceLE, Nat.reduceMul, Nat.reduceMod, evW, fn_eq, evR, Nat.reduceAdd, Nat.reduceLT, Nat.reduceLeDiff, reduceIte, Nat.reduceEqDiff, reduceCtorEq, argEnv, eq_self, if_true, if_false]
      all_goals simp
  · have h46 := f46_err x h h0
    simp only [eBase, eLink] at h46
    unfold askE
    rw [if_neg h0]
    simp only [c35, eBase, eLink, h46, h0, evX, Int.reduceEq, Int.reduceLT, Int.reduceLE, Nat.reduceMul, Nat.reduceMod, evW, fn_eq, evR, Nat.reduceAdd, Nat.reduceLT, Nat.reduceLeDiff, reduceIte, Nat.reduceEqDiff, reduceCtorEq, argEnv, eq_self, if_true, if_false]
theorem f35_ok (x : Pr) (h : x.Ok) (ha : agreeB x = true) (H : Heap) : cal (evC cprog) false 35 [eBase x.a, eBase x.b, eLink x.l, eItems x.f, eItems x.g] H = some (.tup [.ptr (H.length + 6) 0 13 0 0, .int .i64 0], H ++ [bBase x.a, bBase x.b, bLink x.l, bBase x.a, bBase x.b, bLink x.l, bPair x]) := by
  rw [cal_of at35]
  have h46 := f46_ok x h
  have h47 := f47 x h (H.length + 6) (H ++ [bBase x.a, bBase x.b, bLink x.l, bBase x.a, bBase x.b, bLink x.l, bPair x]) (Sits.mk (by simp))
  rw [ha] at h47
  simp only [eBase, eLink, bBase, bLink, bPair] at h46 h47
  simp only [c35, eBase, eLink, h46, h47, nr1_ptr, evX, Int.reduceEq, Int.reduceLT, Int.reduceLE, Nat.reduceMul, Nat.reduceMod, evW, fn_eq, evR, Nat.reduceAdd, Nat.reduceLT, Nat.reduceLeDiff, reduceIte, Nat.reduceEqDiff, reduceCtorEq, argEnv, eq_self, if_true, if_false]
  all_goals simp [bBase, bLink, bPair]
theorem ask_ok {x : Pr} (hr : x.Raw) (h : askE x = 0) : x.Ok ∧ agreeB x = true := by
  unfold askE at h
  split at h
  · rename_i h0
    split at h
    · rename_i ha; exact ⟨open_ok hr h0, ha⟩
    · cases h
  · exact absurd h ‹_›
theorem f16 (x : Pr) (h : x.Raw) (H : Heap) : cal (evC cprog) false 16 [eBase x.a, eBase x.b, eLink x.l, eItems x.f, eItems x.g] H = some (bEr (decide (openE x = 0) && agreeB x) (openE x), H) := by
  rw [cal_of at16]
  by_cases h0 : openE x = 0
  · have h46 := f46_ok x (open_ok h h0)
    have h47 := f47 x (open_ok h h0) (H.length + 6) (H ++ [bBase x.a, bBase x.b, bLink x.l, bBase x.a, bBase x.b, bLink x.l, bPair x]) (Sits.mk (by simp))
    simp only [eBase, eLink, bBase, bLink, bPair] at h46 h47
    simp only [c16, eBase, eLink, h46, h47, evX, Int.reduceEq, Int.reduceLT, Int.reduceLE, Nat.reduceMul, Nat.reduceMod, evW, fn_eq, evR, Nat.reduceAdd, Nat.reduceLT, Nat.reduceLeDiff, reduceIte, Nat.reduceEqDiff, reduceCtorEq, argEnv, eq_self, if_true, if_false]
    all_goals simp [bEr, h0]
  · have h46 := f46_err x h h0
    simp only [eBase, eLink] at h46
    simp only [c16, eBase, eLink, h46, h0, evX, Int.reduceEq, Int.reduceLT, Int.reduceLE, Nat.reduceMul, Nat.reduceMod, evW, fn_eq, evR, Nat.reduceAdd, Nat.reduceLT, Nat.reduceLeDiff, reduceIte, Nat.reduceEqDiff, reduceCtorEq, argEnv, eq_self, if_true, if_false]
    all_goals simp [bEr, h0]
end Go.Proofs.Ytbchmbddcdionaa.Code

/- logic: the laws' arguments, opened; First and Small. -/
set_option linter.unusedSimpArgs false
set_option linter.unusedVariables false
namespace Go.Proofs.Ytbchmbddcdionaa.Code
open Go.Proofs.Ytbchmbddcdionaa.Ev

def eTwo (x : Pr) : AV := .agg [.str x.a.name, .int .i64 x.a.kind, eTys x.a.types, eSes x.a.indexes, .str x.b.name, .int .i64 x.b.kind, eTys x.b.types, eSes x.b.indexes, .int .i64 x.l.child, .int .i64 x.l.field, .str x.l.rule, eItems x.f, eItems x.g]
theorem open_Two {a : AV} (h : ArgTy true [.str, .int .i64, .sl [.str, .int .i64, .int .i64, .int .i64, .sl [.str, .int .i64, .int .i64], .int .i64, .bool, .bool], .sl [.str, .int .i64, .int .i64, .str], .str, .int .i64, .sl [.str, .int .i64, .int .i64, .int .i64, .sl [.str, .int .i64, .int .i64], .int .i64, .bool, .bool], .sl [.str, .int .i64, .int .i64, .str], .int .i64, .int .i64, .str, .sl [.int .i64, .str], .sl [.int .i64, .str]] a) : ∃ x : Pr, a = eTwo x ∧ x.Raw := by
  obtain ⟨bs, rfl, h⟩ := h
  simp only [HasL.eq_2, HasL.eq_1, Has] at h
  obtain ⟨_, _, rfl, ⟨n, rfl, hn⟩, _, _, rfl, ⟨k, rfl, _⟩, _, _, rfl, ⟨l, rfl, hl, hr⟩, _, _, rfl, ⟨l', rfl, hl', hr'⟩, _, _, rfl, ⟨n2, rfl, hn2⟩, _, _, rfl, ⟨k2, rfl, _⟩, _, _, rfl, ⟨l2, rfl, hl2, hr2⟩, _, _, rfl, ⟨l2', rfl, hl2', hr2'⟩,
    _, _, rfl, ⟨c, rfl, _⟩, _, _, rfl, ⟨fl, rfl, _⟩, _, _, rfl, ⟨ru, rfl, _⟩, _, _, rfl, ⟨f, rfl, hf, hrf⟩, _, _, rfl, ⟨g, rfl, hg, hrg⟩, rfl⟩ := h
  have T := fun (l : List (List AV)) (hr : ∀ r ∈ l, _) => typed (P := HasL [.str, .int .i64, .int .i64, .int .i64, .sl [.str, .int .i64, .int .i64], .int .i64, .bool, .bool]) (fun r h => open_Ty h) l (fun r h => by simpa only [HasL.eq_2, HasL.eq_1, Has] using hr r h)
  have Sx := fun (l : List (List AV)) (hr : ∀ r ∈ l, _) => typed (P := HasL [.str, .int .i64, .int .i64, .str]) (fun r h => open_Se h) l (fun r h => by simpa only [HasL.eq_2, HasL.eq_1, Has] using hr r h)
  have I := fun (l : List (List AV)) (hr : ∀ r ∈ l, _) => typed (P := HasL [.int .i64, .str]) (fun r h => open_Item h) l (fun r h => by simpa only [HasL.eq_2, HasL.eq_1, Has] using hr r h)
  obtain ⟨ts, rfl, hq⟩ := T l hr
  obtain ⟨xs, rfl, hq'⟩ := Sx l' hr'
  obtain ⟨ts2, rfl, hq2⟩ := T l2 hr2
  obtain ⟨xs2, rfl, hq2'⟩ := Sx l2' hr2'
  obtain ⟨fs, rfl, _⟩ := I f hrf
  obtain ⟨gs, rfl, _⟩ := I g hrg
  exact ⟨⟨⟨n, k, ts, xs⟩, ⟨n2, k2, ts2, xs2⟩, ⟨c, fl, ru⟩, fs, gs⟩, rfl, ⟨⟨reach_lt hn, reach_lt (by simpa using hl), hq, reach_lt (by simpa using hl'), hq'⟩, ⟨reach_lt hn2, reach_lt (by simpa using hl2), hq2, reach_lt (by simpa using hl2'), hq2'⟩, reach_lt (by simpa using hf), reach_lt (by simpa using hg)⟩⟩
theorem first_run : evCall cprog 300 10 [] [] = some (.bool true, []) := by kernel_rfl
theorem first_body : ∃ H', evBody (evC cprog) itLim c10 [] [] = some (.bool true, H') := by
  have h := evC_of first_run
  rw [evC_fn at10] at h
  have hc : c10.closed = true := rfl
  simp only [evFn, hc, if_true] at h
  split at h
  · rename_i b H' hb
    simp only [Option.some.injEq, Prod.mk.injEq, AV.bool.injEq] at h
    rw [hb, h.1]
    exact ⟨_, rfl⟩
  · cases h
theorem f10 (H : Heap) : cal (evC cprog) false 10 [] H = some (.bool true, H) := by
  rw [cal_of at10]
  obtain ⟨H', h⟩ := first_body
  have hc : c10.closed = true := rfl
  simp only [evFn, hc, if_true, h, calK_f, gc_same]
theorem f9 (x : Pr) (h : x.Raw) (H : Heap) : ∃ s : Bool, cal (evC cprog) false 9 [eTwo x] H = some (.bool s, H) ∧ (s = true → x.f.length ≤ 40 ∧ x.g.length ≤ 40) := by
  rw [cal_of at9]
  have h1 := f33 x.a h.a x.f h.f
  have h2 := f33 x.b h.b x.g h.g
  have hlf := (sItems [] x.f).len
  have hlg := (sItems [] x.g).len
  simp only [List.length_map] at hlf hlg
  simp only [eBase] at h1 h2
  refine ⟨small x.a x.f && small x.b x.g && decide ((x.f.length : Int) ≤ 40) && decide ((x.g.length : Int) ≤ 40), ?_, ?_⟩
  · cases s1 : small x.a x.f <;> cases s2 : small x.b x.g <;> rw [s1] at h1 <;> rw [s2] at h2
    · simp only [c9, eTwo, h1, h2, hlf, hlg, evX, Int.reduceEq, Int.reduceLT, Int.reduceLE, Nat.reduceMul, Nat.reduceMod, evW, fn_eq, evR, Nat.reduceAdd, Nat.reduceLT, Nat.reduceLeDiff, reduceIte, Nat.reduceEqDiff, reduceCtorEq, argEnv, eq_self, if_true, if_false]
    · simp only [c9, eTwo, h1, h2, hlf, hlg, evX, Int.reduceEq, Int.reduceLT, Int.reduceLE, Nat.reduceMul, Nat.reduceMod, evW, fn_eq, evR, Nat.reduceAdd, Nat.reduceLT, Nat.reduceLeDiff, reduceIte, Nat.reduceEqDiff, reduceCtorEq, argEnv, eq_self, if_true, if_false]
    · simp only [c9, eTwo, h1, h2, hlf, hlg, evX, Int.reduceEq, Int.reduceLT, Int.reduceLE, Nat.reduceMul, Nat.reduceMod, evW, fn_eq, evR, Nat.reduceAdd, Nat.reduceLT, Nat.reduceLeDiff, reduceIte, Nat.reduceEqDiff, reduceCtorEq, argEnv, eq_self, if_true, if_false]
    · by_cases k1 : (x.f.length : Int) ≤ 40
      · simp only [c9, eTwo, h1, h2, hlf, hlg, k1, evX, Int.reduceEq, Int.reduceLT, Int.reduceLE, Nat.reduceMul, Nat.reduceMod, evW, fn_eq, evR, Nat.reduceAdd, Nat.reduceLT, Nat.reduceLeDiff, reduceIte, Nat.reduceEqDiff, reduceCtorEq, argEnv, eq_self, if_true, if_false]
      · simp only [c9, eTwo, h1, h2, hlf, hlg, k1, evX, Int.reduceEq, Int.reduceLT, Int.reduceLE, Nat.reduceMul, Nat.reduceMod, evW, fn_eq, evR, Nat.reduceAdd, Nat.reduceLT, Nat.reduceLeDiff, reduceIte, Nat.reduceEqDiff, reduceCtorEq, argEnv, eq_self, if_true, if_false]
  · simp only [Bool.and_eq_true, decide_eq_true_eq]
    intro h; omega
end Go.Proofs.Ytbchmbddcdionaa.Code

/- logic: children, of the program and of the document. -/
set_option linter.unusedSimpArgs false
set_option linter.unusedVariables false
namespace Go.Proofs.Ytbchmbddcdionaa.Code
open Go.Proofs.Ytbchmbddcdionaa.Ev

def isKid (x : Pr) (key : ByteArray) (y : Item) : Bool := decide (y.type = x.l.child) && decide (kOf x y.data = key)
def kids (x : Pr) (key : ByteArray) : List Int := gath (fun i y => if isKid x key y = true then [(i : Int)] else []) 0 x.f
theorem Pr.Ok.rg {x : Pr} (h : x.Ok) : Right x.b x.g := ⟨h.b, h.vb, h.g⟩
theorem Pr.Ok.rf {x : Pr} (h : x.Ok) : Right x.a x.f := ⟨h.a, h.va, h.f⟩
/-- an item's parent is the root with its key -/
theorem up_iff {x : Pr} (h : x.Ok) {i : Nat} {y : Item} (hy : x.g[i]? = some y) (ht : y.type = 0) (d : ByteArray) : upI x d = (i : Int) ↔ kOf x d = keyOf (rootTy x.b) y.data := by
  constructor
  · intro hu
    rcases idxOf_cases (isRoot x.b (kOf x d)) x.g with ⟨h1, _⟩ | ⟨m, z, h1, h2, h3⟩
    · unfold upI rootIx at hu; rw [h1] at hu; omega
    · unfold upI rootIx at hu
      have : m = i := by omega
      subst this
      rw [hy] at h2; cases h2
      simp only [isRoot, Bool.and_eq_true, decide_eq_true_eq] at h3
      exact h3.2.symm
  · intro hk
    refine idxOf_first hy (by simp [isRoot, ht, hk]) fun j z hj hz => ?_
    cases hr : isRoot x.b (kOf x d) z with
    | false => rfl
    | true =>
      simp only [isRoot, Bool.and_eq_true, decide_eq_true_eq] at hr
      have := roots_apart h.rg hz hy hr.1 ht (by rw [hr.2, hk])
      omega
theorem kids_len (x : Pr) (key : ByteArray) : (kids x key).length ≤ x.f.length := gath_len _ (fun i y => by split <;> simp) _ _
theorem f38 (x : Pr) (h : x.Ok) (j : Nat) (u : Item) (hu : x.g[j]? = some u) (ht : u.type = 0) (n : Nat) (H : Heap) (hs : Sits H n (bPair x)) :
    cal (evC cprog) true 38 [.ptr n 0 13 0 0, .int .i64 (j : Int)] H = some (eIs (kids x (keyOf (rootTy x.b) u.data)), H) := by
  rw [cal_of at38]
  obtain ⟨hl, hf⟩ := forest_fits h.f
  obtain ⟨hlg, hg⟩ := forest_fits h.g
  obtain ⟨r, m, k, hr, hro, _⟩ := root_at h.vb
  have h64 : ∀ H, cal (evC cprog) false 64 [eBase x.b, .int .i64 0, .str u.data] H = some (.tup [.str (keyOf r u.data), .int .i64 0], H) := fun H => f64k x.b h.b h.vb 0 r hr hro u.data (by
    rw [show (⟨((0 : Nat) : Int), u.data⟩ : Item) = u by cases u; simp_all]; exact hg j u hu) H
  have hrt : rootTy x.b = r := tyOf_at hr
  rw [hrt]
  simp only [eBase] at h64
  have hlen := (sItems [] x.f).len
  simp only [List.length_map] at hlen
  have hau := aItem hu
  have g0 := hs.at
  have hs0 := hs
  simp only [bPair, Sits] at hs g0
  simp only [c38, nck_ptr, g0, hlen, hau, rItem, h64, evX, Int.reduceEq, Int.reduceLT, Int.reduceLE, Nat.reduceMul, Nat.reduceMod, evW, fn_eq, evR, Nat.reduceAdd, Nat.reduceLT, Nat.reduceLeDiff, reduceIte, Nat.reduceEqDiff, reduceCtorEq, argEnv, eq_self, if_true, if_false]
  generalize hz : itLim _ _ = z
  have L := gath_rule x.f (fun i y => if isKid x (keyOf r u.data) y = true then [(i : Int)] else []) rI [0, 5, 7, 29, 30] (fun i rv => [(0, .ptr n 0 13 0 0), (5, .str (keyOf r u.data)), (7, rv), (29, .int .i64 (x.f.length : Int)), (30, .int .i64 (i : Int))]) H 1 3 (evCode (evC cprog) itLim c38_l0) 0 [7] (fun rv => [(7, rv)])
    (fun i y hy E X rv hE hO => by
      have hlt : i < x.f.length := (List.getElem?_eq_some_iff.1 hy).1
      have hi : (i : Int) < (x.f.length : Int) := by omega
      have hw := wrapS hlt (by omega)
      have ha := aItem hy
      have h51 := f51 x (i : Int) n (H ++ X) (hs0.app X)
      rw [isCh_at hy] at h51
      by_cases hc : y.type = x.l.child
      · have h65 := f65 x h y.data (by rw [← hc]; exact hf i y hy) n (H ++ X) (hs0.app X)
        rw [decide_eq_true hc] at h51
        by_cases hk : kOf x y.data = keyOf r u.data
        · have hkid : isKid x (keyOf r u.data) y = true := by simp [isKid, hc, hk]
          rw [if_pos hkid]
          obtain ⟨rv', X', a1, a2, a3⟩ := app_int hO H rfl (by
            have := gath_len (fun i y => if isKid x (keyOf r u.data) y = true then [(i : Int)] else []) (fun i y => by split <;> simp) (x.f.take i) 0
            rw [List.length_take] at this; omega) (i : Int)
          simp only [c38_l0, nck_ptr, hE, hi, hs, h51, h65, ha, rItem, hk, a1, a2, hw, evX, Int.reduceEq, Int.reduceLT, Int.reduceLE, Nat.reduceMul, Nat.reduceMod, evW, fn_eq, evR, Nat.reduceAdd, Nat.reduceLT, Nat.reduceLeDiff, reduceIte, Nat.reduceEqDiff, reduceCtorEq, argEnv, eq_self, if_true, if_false]
          exact ⟨_, _, _, rfl, by rfl, by simpa using a3⟩
        · have hkid : isKid x (keyOf r u.data) y = false := by simp [isKid, hk]
          rw [if_neg (by rw [hkid]; simp)]
          simp only [c38_l0, nck_ptr, hE, hi, hs, h51, h65, ha, rItem, hk, hw, evX, Int.reduceEq, Int.reduceLT, Int.reduceLE, Nat.reduceMul, Nat.reduceMod, evW, fn_eq, evR, Nat.reduceAdd, Nat.reduceLT, Nat.reduceLeDiff, reduceIte, Nat.reduceEqDiff, reduceCtorEq, argEnv, eq_self, if_true, if_false]
          exact ⟨_, _, _, rfl, by rfl, by simpa using hO⟩
      · have hkid : isKid x (keyOf r u.data) y = false := by simp [isKid, hc]
        rw [decide_eq_false hc] at h51
        rw [if_neg (by rw [hkid]; simp)]
        simp only [c38_l0, nck_ptr, hE, hi, h51, hw, evX, Int.reduceEq, Int.reduceLT, Int.reduceLE, Nat.reduceMul, Nat.reduceMod, evW, fn_eq, evR, Nat.reduceAdd, Nat.reduceLT, Nat.reduceLeDiff, reduceIte, Nat.reduceEqDiff, reduceCtorEq, argEnv, eq_self, if_true, if_false]
        exact ⟨_, _, _, rfl, by rfl, by simpa using hO⟩)
    (fun E X rv hE => by
      simp only [c38_l0, nck_ptr, hE, Int.lt_irrefl, evX, Int.reduceEq, Int.reduceLT, Int.reduceLE, Nat.reduceMul, Nat.reduceMod, evW, fn_eq, evR, Nat.reduceAdd, Nat.reduceLT, Nat.reduceLeDiff, reduceIte, Nat.reduceEqDiff, reduceCtorEq, argEnv, eq_self, if_true, if_false]
      exact ⟨_, rfl, by rfl⟩) _ [] .nils (.nils ..) (by rfl) (by simp) z hz
  obtain ⟨T, X, rv, rfl, hT, hO⟩ := L
  simp only [hT, out_tup hO, evX, Int.reduceEq, Int.reduceLT, Int.reduceLE, Nat.reduceMul, Nat.reduceMod, evW, fn_eq, evR, Nat.reduceAdd, Nat.reduceLT, Nat.reduceLeDiff, reduceIte, Nat.reduceEqDiff, reduceCtorEq, argEnv, eq_self, if_true, if_false]
  exact frz_out hO H [] (by simp) (fz_rI _)
end Go.Proofs.Ytbchmbddcdionaa.Code

/- logic: Parent, Children, Lost, of the program and of the document. -/
set_option linter.unusedSimpArgs false
set_option linter.unusedVariables false
namespace Go.Proofs.Ytbchmbddcdionaa.Code
open Go.Proofs.Ytbchmbddcdionaa.Ev

def isRt (x : Pr) (i : Int) : Bool := decide (0 ≤ i) && decide (i < (x.g.length : Int)) && decide (typ x.g i = 0)
noncomputable def rootE (x : Pr) (i : Int) : Int := if askE x = 0 then (if isRt x i = true then 0 else 2) else askE x
noncomputable def kidsR (x : Pr) (i : Int) : List Int := if rootE x i = 0 then kids x (keyOf (rootTy x.b) (dat x.g i)) else []
def eIE (l : List Int) (e : Int) : AV := .tup [eIs l, .int .i64 e]
theorem isRt_at {x : Pr} {i : Int} (h : isRt x i = true) : ∃ (j : Nat) (u : Item), i = (j : Int) ∧ x.g[j]? = some u ∧ u.type = 0 := by
  simp only [isRt, Bool.and_eq_true, decide_eq_true_eq] at h
  obtain ⟨⟨h0, h1⟩, h2⟩ := h
  obtain ⟨j, rfl⟩ : ∃ j : Nat, i = (j : Int) := ⟨i.toNat, by omega⟩
  obtain ⟨u, hu⟩ : ∃ u, x.g[j]? = some u := ⟨_, List.getElem?_eq_getElem (by omega)⟩
  rw [typ_at hu] at h2
  exact ⟨j, u, rfl, hu, h2⟩
theorem isRt_no {x : Pr} {i : Int} (h : isRt x i = false) : i < 0 ∨ (0 ≤ i ∧ (x.g.length : Int) ≤ i) ∨ ∃ (j : Nat) (u : Item), i = (j : Int) ∧ j < x.g.length ∧ x.g[j]? = some u ∧ u.type ≠ 0 := by
  by_cases h0 : i < 0
  · exact .inl h0
  by_cases h1 : (x.g.length : Int) ≤ i
  · exact .inr (.inl ⟨by omega, h1⟩)
  obtain ⟨j, rfl⟩ : ∃ j : Nat, i = (j : Int) := ⟨i.toNat, by omega⟩
  obtain ⟨u, hu⟩ : ∃ u, x.g[j]? = some u := ⟨_, List.getElem?_eq_getElem (by omega)⟩
  refine .inr (.inr ⟨j, u, rfl, by omega, hu, fun ht => ?_⟩)
  have : isRt x (j : Int) = true := by
    simp only [isRt, typ_at hu, ht, Bool.and_eq_true, decide_eq_true_eq, and_true]; omega
  rw [h] at this; cases this
theorem f50_ok (x : Pr) (h : x.Raw) (i : Int) (he : rootE x i = 0) (H : Heap) : cal (evC cprog) false 50 [eBase x.a, eBase x.b, eLink x.l, eItems x.f, eItems x.g, .int .i64 i] H =
    some (.tup [.ptr (H.length + 9) 0 13 0 0, .int .i64 0], H ++ [bBase x.a, bBase x.b, bLink x.l, bBase x.a, bBase x.b, bLink x.l, bBase x.a, bBase x.b, bLink x.l, bPair x]) := by
  rw [cal_of at50]
  unfold rootE at he
  split at he
  case isFalse h0 => exact absurd he h0
  rename_i h0
  split at he
  case isFalse => cases he
  rename_i hr
  obtain ⟨j, u, rfl, hu, ht⟩ := isRt_at hr
  have h35 := f35_ok x (ask_ok h h0).1 (ask_ok h h0).2
  have hlen := (sItems [] x.g).len
  simp only [List.length_map] at hlen
  have ha := aItem hu
  have hj := (List.getElem?_eq_some_iff.1 hu).1
  have k0 : ¬ (j : Int) < 0 := by omega
  have k1 : ¬ (x.g.length : Int) ≤ (j : Int) := by omega
  simp only [eBase, eLink, bBase, bLink, bPair] at h35
  simp only [c50, eBase, eLink, h35, hlen, ha, rItem, ht, k0, k1, nr1_ptr, evX, Int.reduceEq, Int.reduceLT, Int.reduceLE, Nat.reduceMul, Nat.reduceMod, evW, fn_eq, evR, Nat.reduceAdd, Nat.reduceLT, Nat.reduceLeDiff, reduceIte, Nat.reduceEqDiff, reduceCtorEq, argEnv, eq_self, if_true, if_false]
  all_goals simp [bBase, bLink, bPair]
theorem f50_err (x : Pr) (h : x.Raw) (i : Int) (he : rootE x i ≠ 0) (H : Heap) : cal (evC cprog) false 50 [eBase x.a, eBase x.b, eLink x.l, eItems x.f, eItems x.g, .int .i64 i] H = some (.tup [.nilptr, .int .i64 (rootE x i)], H) := by
  rw [cal_of at50]
  by_cases h0 : askE x = 0
  · have h35 := f35_ok x (ask_ok h h0).1 (ask_ok h h0).2
    have hlen := (sItems [] x.g).len
    simp only [List.length_map] at hlen
    simp only [eBase, eLink, bBase, bLink, bPair] at h35
    unfold rootE at he ⊢
    rw [if_pos h0] at he ⊢
    cases hr : isRt x i with
    | true => rw [hr] at he; exact absurd rfl he
    | false =>
      rcases isRt_no hr with k0 | ⟨k0, k1⟩ | ⟨j, u, rfl, hj, hu, ht⟩
      · simp only [c50, eBase, eLink, h35, hlen, k0, evX, Int.reduceEq, Int.reduceLT, Int.reduceLE, Nat.reduceMul, Nat.reduceMod, evW, fn_eq, evR, Nat.reduceAdd, Nat.reduceLT, Nat.reduceLeDiff, reduceIte, Nat.reduceEqDiff, reduceCtorEq, argEnv, eq_self, if_true, if_false]
      · have k0' : ¬ i < 0 := by omega
        simp only [c50, eBase, eLink, h35, hlen, k0', k1, evX, Int.reduceEq, Int.reduceLT, Int.reduceLE, Nat.reduceMul, Nat.reduceMod, evW, fn_eq, evR, Nat.reduceAdd, Nat.reduceLT, Nat.reduceLeDiff, reduceIte, Nat.reduceEqDiff, reduceCtorEq, argEnv, eq_self, if_true, if_false]
      · have k0' : ¬ (j : Int) < 0 := by omega
        have k1 : ¬ (x.g.length : Int) ≤ (j : Int) := by omega
        have ha := aItem hu
        simp only [c50, eBase, eLink, h35, hlen, ha, rItem, ht, k0', k1, evX, Int.reduceEq, Int.reduceLT, Int.reduceLE, Nat.reduceMul, Nat.reduceMod, evW, fn_eq, evR, Nat.reduceAdd, Nat.reduceLT, Nat.reduceLeDiff, reduceIte, Nat.reduceEqDiff, reduceCtorEq, argEnv, eq_self, if_true, if_false]
  · have h35 := f35_err x h h0
    simp only [eBase, eLink] at h35
    unfold rootE
    rw [if_neg h0]
    simp only [c50, eBase, eLink, h35, h0, evX, Int.reduceEq, Int.reduceLT, Int.reduceLE, Nat.reduceMul, Nat.reduceMod, evW, fn_eq, evR, Nat.reduceAdd, Nat.reduceLT, Nat.reduceLeDiff, reduceIte, Nat.reduceEqDiff, reduceCtorEq, argEnv, eq_self, if_true, if_false]
theorem f19 (x : Pr) (h : x.Raw) (i : Int) (H : Heap) : cal (evC cprog) true 19 [eBase x.a, eBase x.b, eLink x.l, eItems x.f, eItems x.g, .int .i64 i] H = some (eIE (kidsR x i) (rootE x i), H) := by
  rw [cal_of at19]
  by_cases he : rootE x i = 0
  · have h50 := f50_ok x h i he
    have hr : isRt x i = true := by
      unfold rootE at he
      split at he
      · split at he
        · assumption
        · cases he
      · exact absurd he ‹_›
    have h0 : askE x = 0 := by
      unfold rootE at he
      split at he
      · assumption
      · exact absurd he ‹_›
    obtain ⟨j, u, rfl, hu, ht⟩ := isRt_at hr
    have h38 := f38 x (ask_ok h h0).1 j u hu ht (H.length + 12) (H ++ [bBase x.a, bBase x.b, bLink x.l, bBase x.a, bBase x.b, bLink x.l, bBase x.a, bBase x.b, bLink x.l, bBase x.a, bBase x.b, bLink x.l, bPair x]) (Sits.mk (by simp))
    rw [show kidsR x (j : Int) = kids x (keyOf (rootTy x.b) u.data) by unfold kidsR; rw [if_pos he, dat_at hu], he]
    simp only [eBase, eLink, bBase, bLink, bPair] at h50 h38
    simp only [c19, eBase, eLink, h50, h38, evX, Int.reduceEq, Int.reduceLT, Int.reduceLE, Nat.reduceMul, Nat.reduceMod, evW, fn_eq, evR, Nat.reduceAdd, Nat.reduceLT, Nat.reduceLeDiff, reduceIte, Nat.reduceEqDiff, reduceCtorEq, argEnv, eq_self, if_true, if_false]
    exact frz_two (ids := []) rfl rfl (by simp) (by simp) _ _
  · have h50 := f50_err x h i he
    simp only [eBase, eLink] at h50
    rw [show kidsR x i = [] from if_neg he]
    simp only [c19, eBase, eLink, h50, he, evX, Int.reduceEq, Int.reduceLT, Int.reduceLE, Nat.reduceMul, Nat.reduceMod, evW, fn_eq, evR, Nat.reduceAdd, Nat.reduceLT, Nat.reduceLeDiff, reduceIte, Nat.reduceEqDiff, reduceCtorEq, argEnv, eq_self, if_true, if_false]
    exact frz_two (fz_nils _) rfl (by simp) (by simp) _ _
noncomputable def lostR (x : Pr) : List Int := if askE x = 0 then lostL x else []
theorem f21 (x : Pr) (h : x.Raw) (H : Heap) : cal (evC cprog) true 21 [eBase x.a, eBase x.b, eLink x.l, eItems x.f, eItems x.g] H = some (eIE (lostR x) (askE x), H) := by
  rw [cal_of at21]
  by_cases h0 : askE x = 0
  · have h35 := f35_ok x (ask_ok h h0).1 (ask_ok h h0).2
    have h53 := f53 x (ask_ok h h0).1 (H.length + 9) (H ++ [bBase x.a, bBase x.b, bLink x.l, bBase x.a, bBase x.b, bLink x.l, bBase x.a, bBase x.b, bLink x.l, bPair x]) (Sits.mk (by simp))
    rw [show lostR x = lostL x from if_pos h0, h0]
    simp only [eBase, eLink, bBase, bLink, bPair] at h35 h53
    simp only [c21, eBase, eLink, h35, h53, evX, Int.reduceEq, Int.reduceLT, Int.reduceLE, Nat.reduceMul, Nat.reduceMod, evW, fn_eq, evR, Nat.reduceAdd, Nat.reduceLT, Nat.reduceLeDiff, reduceIte, Nat.reduceEqDiff, reduceCtorEq, argEnv, eq_self, if_true, if_false]
    exact frz_two (ids := []) rfl rfl (by simp) (by simp) _ _
  · have h35 := f35_err x h h0
    simp only [eBase, eLink] at h35
    rw [show lostR x = [] from if_neg h0]
    simp only [c21, eBase, eLink, h35, h0, evX, Int.reduceEq, Int.reduceLT, Int.reduceLE, Nat.reduceMul, Nat.reduceMod, evW, fn_eq, evR, Nat.reduceAdd, Nat.reduceLT, Nat.reduceLeDiff, reduceIte, Nat.reduceEqDiff, reduceCtorEq, argEnv, eq_self, if_true, if_false]
    exact frz_two (fz_nils _) rfl (by simp) (by simp) _ _
end Go.Proofs.Ytbchmbddcdionaa.Code

/- logic: all functions are held, by the kernel's look or by a proof of their own. -/
set_option linter.unusedSimpArgs false
set_option linter.unusedVariables false
namespace Go.Proofs.Ytbchmbddcdionaa.Code
open Go.Proofs.Ytbchmbddcdionaa.Ev

theorem cprog_sound {f : Nat} {c : CFn} (h : cprog f = some c) : okFn Go.Proofs.Try.prog f c = true ∨ Held Go.Proofs.Try.prog f c := by
  rcases cprog_ok h with h | h
  · exact .inl h
  · simp only [utab, List.mem_cons, Prod.mk.injEq, List.not_mem_nil, or_false] at h
    rcases h with ⟨rfl, rfl⟩ | ⟨rfl, rfl⟩ | ⟨rfl, rfl⟩ | ⟨rfl, rfl⟩
    · exact .inr (.inr (fnM_sound (by kernel_rfl) back66 (by kernel_rfl)))
    · exact .inr (.inl (user43 rfl rfl rfl rfl))
    · exact .inr (.inl (user45 rfl rfl rfl rfl))
    · exact .inr (.inl (userIns rfl rfl rfl rfl))
end Go.Proofs.Ytbchmbddcdionaa.Code

/- logic: in the place of plain's Sp: nothing of its own. -/
set_option linter.unusedSimpArgs false
set_option linter.unusedVariables false

/- logic (from the plain seat): items that are kept are a forest, if their parents are kept; Delete (mathematics). -/
set_option linter.unusedSimpArgs false
set_option linter.unusedVariables false
set_option linter.unusedSectionVars false
namespace Go.Proofs.Ytbchmbddcdionaa.Code
open Go.Proofs.Ytbchmbddcdionaa.Ev

theorem lastTo_last {f : List Item} {p : Int} : ∀ (n : Nat), ∀ j : Nat, lastTo f p n < (j : Int) → j < n → typ f (j : Int) ≠ p
  | 0, j, _, h => by omega
  | n + 1, j, h, hj => by
    unfold lastTo at h
    split at h
    · omega
    · rename_i h1
      by_cases e : j = n
      · subst e; exact h1
      · exact lastTo_last n j h (by omega)

/-- some items of a forest are kept, in their order -/
structure Kept (ts : List Ty) (f g : List Item) (keep : Nat → Prop) (pos : Nat → Nat) : Prop where
  at' : ∀ (k : Nat) (x : Item), keep k → f[k]? = some x → g[pos k]? = some x
  of : ∀ j : Nat, j < g.length → ∃ (k : Nat) (x : Item), keep k ∧ f[k]? = some x ∧ pos k = j
  lt : ∀ k k' : Nat, keep k → keep k' → k < k' → k' < f.length → pos k < pos k'
  par : ∀ (k p : Nat), keep k → k < f.length → Code.par ts f k = (p : Int) → keep p
section
variable {b : Base} {f g : List Item} {keep : Nat → Prop} {pos : Nat → Nat} (hR : Right b f) (hK : Kept b.types f g keep pos)
include hR hK
theorem Kept.inv {i j : Nat} (hi : keep i) (hj : keep j) (hil : i < f.length) (h : pos i ≤ pos j) : i ≤ j := by
  by_cases hc : j < i
  · have := hK.lt j i hj hi hc hil; omega
  · omega
theorem Kept.below {i : Nat} (hi : keep i) (hil : i < f.length) {j : Nat} (hj : j < pos i) : ∃ (k : Nat) (x : Item), k < i ∧ keep k ∧ f[k]? = some x ∧ pos k = j := by
  obtain ⟨x, hx⟩ : ∃ x, f[i]? = some x := ⟨_, List.getElem?_eq_getElem hil⟩
  have hg := (List.getElem?_eq_some_iff.1 (hK.at' i x hi hx)).1
  obtain ⟨k, y, h1, h2, h3⟩ := hK.of j (by omega)
  refine ⟨k, y, ?_, h1, h2, h3⟩
  by_cases hc : k < i
  · exact hc
  · by_cases e : k = i
    · subst e; omega
    · have := hK.lt i k hi h1 (by omega) (List.getElem?_eq_some_iff.1 h2).1; omega
theorem Kept.typ' {i : Nat} {x : Item} (hx : f[i]? = some x) (hi : keep i) : typ g (pos i : Int) = x.type := typ_at (hK.at' i x hi hx)
theorem Kept.par' {i : Nat} {x : Item} (hx : f[i]? = some x) (hi : keep i) : (Code.par b.types f i = -1 ∧ Code.par b.types g (pos i) = -1) ∨ ∃ p : Nat, Code.par b.types f i = (p : Int) ∧ p < i ∧ keep p ∧ Code.par b.types g (pos i) = (pos p : Int) ∧ pos p < pos i := by
  have hil := (List.getElem?_eq_some_iff.1 hx).1
  obtain ⟨_, k, u, h0, hk, hkl, hu, _⟩ := hR.item hil
  rw [hx] at h0; cases h0
  have htp : tpar b.types (typ g (pos i : Int)) = u.parent := by rw [Kept.typ' hR hK hx hi, hk, tpar_at hu]
  rcases hR.par hx hk hu with ⟨h1, h2, hk0⟩ | ⟨p, h1, h2, _, h4, h5, h6⟩
  · exact .inl ⟨h2, by unfold Code.par; rw [htp, if_pos h1]⟩
  · have hp := hK.par i p hi hil h1
    obtain ⟨y, hy⟩ : ∃ y, f[p]? = some y := ⟨_, List.getElem?_eq_getElem (by omega)⟩
    have hlt := hK.lt p i hp hi h2 hil
    refine .inr ⟨p, h1, h2, hp, ?_, hlt⟩
    unfold Code.par
    rw [htp, if_neg (by omega)]
    refine lastTo_is ?_ _ hlt fun j' h10 h11 he => ?_
    · rw [Kept.typ' hR hK hy hp, ← typ_at hy, h6]
    · obtain ⟨j, z, e1, e2, e3, rfl⟩ := Kept.below hR hK hi hil h11
      rw [Kept.typ' hR hK e3 e2] at he
      have hjp : p < j := by
        by_cases hc : j ≤ p
        · by_cases e : j = p
          · subst e; omega
          · have := hK.lt j p e2 hp (by omega) (by omega); omega
        · omega
      have hpar : Code.par b.types f i = lastTo f u.parent i := by unfold Code.par; rw [typ_at hx, hk, tpar_at hu, if_neg (by omega)]
      exact lastTo_last i j (p := u.parent) (f := f) (by rw [← hpar, h1]; omega) e1 (by rw [typ_at e3]; exact he)
theorem Kept.pth' : ∀ (n i : Nat), i ≤ n → ∀ x, f[i]? = some x → keep i → pth b.types g (pos i) = (pth b.types f i).map fun a => (pos a.toNat : Int) := by
  intro n
  induction n with
  | zero =>
    intro i hi x hx hm
    obtain rfl : i = 0 := by omega
    have hlt := (List.getElem?_eq_some_iff.1 hx).1
    have hc := (List.getElem?_eq_some_iff.1 (hK.at' 0 x hm hx)).1
    rcases Kept.par' hR hK hx hm with ⟨h1, h2⟩ | ⟨p, _, h2, _⟩
    · rw [pth_eq _ _ hlt, pth_eq _ _ hc, h1, h2, pthI_neg _ _ (by omega), pthI_neg _ _ (by omega)]; simp
    · omega
  | succ n ih =>
    intro i hi x hx hm
    have hlt := (List.getElem?_eq_some_iff.1 hx).1
    have hc := (List.getElem?_eq_some_iff.1 (hK.at' i x hm hx)).1
    rcases Kept.par' hR hK hx hm with ⟨h1, h2⟩ | ⟨p, h1, h2, h3, h4, _⟩
    · rw [pth_eq _ _ hlt, pth_eq _ _ hc, h1, h2, pthI_neg _ _ (by omega), pthI_neg _ _ (by omega)]; simp
    · obtain ⟨y, hy⟩ : ∃ y, f[p]? = some y := ⟨_, List.getElem?_eq_getElem (by omega)⟩
      rw [pth_eq _ _ hlt, pth_eq _ _ hc, h1, h4, pthI_nat, pthI_nat, ih p (by omega) y hy h3]; simp
theorem Kept.in : ∀ (n i : Nat), i ≤ n → i < f.length → keep i → ∀ a ∈ pth b.types f i, ∃ (q : Nat) (y : Item), a = (q : Int) ∧ f[q]? = some y ∧ keep q := by
  intro n
  induction n with
  | zero =>
    intro i hi hil hm a ha
    obtain rfl : i = 0 := by omega
    have hb := pth_bound ha
    exact ⟨0, _, by omega, List.getElem?_eq_getElem hil, hm⟩
  | succ n ih =>
    intro i hi hil hm a ha
    rw [pth_eq _ _ hil] at ha
    rcases List.mem_append.1 ha with ha | ha
    · by_cases h0 : Code.par b.types f i < 0
      · rw [pthI_neg _ _ h0] at ha; cases ha
      · obtain ⟨p, hp⟩ : ∃ p : Nat, Code.par b.types f i = (p : Int) := ⟨(Code.par b.types f i).toNat, by omega⟩
        have hpk := hK.par i p hm hil hp
        rw [hp, pthI_nat] at ha
        have := (par_lt b.types f i).2
        exact ih p (by omega) (by omega) hpk a ha
    · simp at ha
      exact ⟨i, _, ha, List.getElem?_eq_getElem hil, hm⟩
theorem Kept.ok {i : Nat} {x : Item} (hx : f[i]? = some x) (hm : keep i) : okAt b.types g (pos i) x = true := by
  have hi := (List.getElem?_eq_some_iff.1 hx).1
  have hok := hR.ok i x hi hx
  have hprev : ∀ c, pos i = c + 1 → ∃ (j : Nat) (z : Item), j < i ∧ keep j ∧ f[j]? = some z ∧ pos j = c ∧ way b.types g (pos i) = (pth b.types f j).map fun a => (pos a.toNat : Int) := by
    intro c hc
    obtain ⟨j, z, e1, e2, e3, e4⟩ := Kept.below hR hK hm hi (show c < pos i by omega)
    refine ⟨j, z, e1, e2, e3, e4, ?_⟩
    rw [hc, ← e4]
    exact Kept.pth' hR hK j j (Nat.le_refl _) z e3 e2
  have hpc := Kept.par' hR hK hx hm
  simp only [okAt, Bool.and_eq_true] at hok
  obtain ⟨⟨hft, hpk⟩, _⟩ := hok
  have hpar : (decide (tpar b.types x.type < 0) || tell (Code.par b.types g (pos i) ∈ way b.types g (pos i))) = true := by
    rcases hpc with ⟨h1, h2⟩ | ⟨p, h1, h2, h3, h4, h5⟩
    · have hno : Code.par b.types f i ∉ way b.types f i := fun h => by have := way_bound h; omega
      rw [tell_neg hno, Bool.or_false] at hpk
      rw [hpk]; rfl
    · obtain ⟨j, z, e1, e2, e3, e4, e5⟩ := hprev (pos i - 1) (by omega)
      have hpj : p ≤ j := Kept.inv hR hK h3 e2 (by omega) (by omega)
      have hmw := ok_par hx (hR.ok i x hi hx) (by omega)
      rw [h1] at hmw
      obtain ⟨i, rfl⟩ : ∃ i', i = i' + 1 := ⟨i - 1, by omega⟩
      have hmj := way_between (Nat.le_refl _) hR.ok i (by omega) _ hmw j (by omega) (by omega)
      rw [e5, h4, tell_pos (List.mem_map.2 ⟨_, hmj, by simp⟩)]; simp
  have hsib : sibOk b.types g (pos i) x = true := by
    unfold sibOk
    cases hc : pos i with
    | zero => simp [way, wayTo]
    | succ c =>
      obtain ⟨j, z, e1, e2, e3, e4, e5⟩ := hprev c hc
      rw [← hc, e5]
      have hno : nOf b.types g (pos i) = nOf b.types f i := by
        unfold nOf
        rcases hpc with ⟨h1, h2⟩ | ⟨p, h1, h2, h3, h4, h5⟩
        · rw [h1, h2, pthI_neg _ _ (by omega), pthI_neg _ _ (by omega)]
        · obtain ⟨y, hy⟩ : ∃ y, f[p]? = some y := ⟨_, List.getElem?_eq_getElem (by omega)⟩
          rw [h1, h4, pthI_nat, pthI_nat, Kept.pth' hR hK p p (Nat.le_refl _) y hy h3, List.length_map]
      rw [hno, List.getElem?_map]
      cases hn : (pth b.types f j)[nOf b.types f i]? with
      | none => rfl
      | some a =>
        simp only [Option.map_some]
        obtain ⟨q, y, rfl, hy, hym⟩ := Kept.in hR hK j j (Nat.le_refl _) (List.getElem?_eq_some_iff.1 e3).1 e2 a (List.mem_of_getElem? hn)
        have hfar := sib_far hR hx (i - 1 - j) j rfl e1 (by
          rcases hpc with ⟨h1, _⟩ | ⟨p, h1, h2, h3, h4, h5⟩
          · exact .inl (by omega)
          · have hpj : p ≤ j := Kept.inv hR hK h3 e2 (by omega) (by omega)
            have hmw := ok_par hx (hR.ok i x hi hx) (by omega)
            rw [h1] at hmw
            obtain ⟨i, rfl⟩ : ∃ i', i = i' + 1 := ⟨i - 1, by omega⟩
            exact .inr (by rw [h1]; exact way_between (Nat.le_refl _) hR.ok i (by omega) _ hmw j (by omega) (by omega))) _ hn
        simp only [Int.toNat_natCast]
        have hyt := typ_at (hK.at' q y hym hy)
        have hyd := dat_at (hK.at' q y hym hy)
        simp only [ordOk, typ_at hy, dat_at hy, hyt, hyd] at hfar ⊢
        exact hfar
  rw [okAt, hft, hpar, hsib]; rfl
theorem Kept.forest (hl : g.length ≤ 200) : Right b g := by
  refine ⟨hR.base, hR.valid, ?_⟩
  unfold forestOk
  rw [decide_eq_true (by omega), Bool.true_and]
  refine tell_pos fun j y hy => ?_
  have hj := (List.getElem?_eq_some_iff.1 hy).1
  obtain ⟨i, x, e1, e2, rfl⟩ := hK.of j hj
  rw [hK.at' i x e1 e2] at hy
  cases hy
  exact Kept.ok hR hK e2 e1
end
/-- what Delete leaves -/
theorem del_kept {b : Base} {f : List Item} (hR : Right b f) {i : Nat} (hi : i < f.length) : Kept b.types f (f.take i ++ f.drop (endOf b.types f i)) (fun k => k < i ∨ endOf b.types f i ≤ k) (fun k => if k < i then k else k - (endOf b.types f i - i)) := by
  have hend := endOf_is b.types f hi
  have hlt := hend.lt
  have hle := hend.le
  have ht : (f.take i).length = i := by rw [List.length_take]; omega
  refine ⟨fun k x hk hx => ?_, fun j hj => ?_, fun k k' hk hk' hkk hkl => ?_, fun k p hk hkl hp => ?_⟩
  · by_cases h : k < i
    · simp only [if_pos h]
      rw [List.getElem?_append_left (by omega), List.getElem?_take, if_pos h]; exact hx
    · simp only [if_neg h]
      rw [List.getElem?_append_right (by omega), ht, List.getElem?_drop]
      rw [show endOf b.types f i + (k - (endOf b.types f i - i) - i) = k by omega]; exact hx
  · rw [List.length_append, ht, List.length_drop] at hj
    by_cases h : j < i
    · exact ⟨j, f[j], .inl h, List.getElem?_eq_getElem (by omega), if_pos h⟩
    · refine ⟨j + (endOf b.types f i - i), _, .inr (by omega), List.getElem?_eq_getElem (by omega), ?_⟩
      show (if j + (endOf b.types f i - i) < i then _ else _) = j
      rw [if_neg (by omega)]; omega
  · show (if k < i then _ else _) < (if k' < i then _ else _)
    split <;> split <;> omega
  · -- the parent of what is kept is kept
    have hpl := par_lt b.types f k
    by_cases h : p < i ∨ endOf b.types f i ≤ p
    · exact h
    · exfalso
      have hke : endOf b.types f i ≤ k := by rcases hk with h | h <;> omega
      have hip : (i : Int) ∈ pth b.types f p := by
        by_cases e : p = i
        · subst e; exact pth_self _ _ _
        · exact hend.all p (by omega) (by omega)
      have hik : (i : Int) ∈ pth b.types f k := by
        rw [pth_eq _ _ hkl, hp, pthI_nat]
        exact List.mem_append_left _ hip
      exact hend.no (by omega) (way_between (Nat.le_refl _) hR.ok k hkl _ hik (endOf b.types f i) (by omega) hke)
theorem del_right {b : Base} {f : List Item} (hR : Right b f) {i : Nat} (hi : i < f.length) : Right b (f.take i ++ f.drop (endOf b.types f i)) := by
  have h2 := hR.len
  have hend := endOf_is b.types f hi
  have hlt := hend.lt
  have hle := hend.le
  exact Kept.forest hR (del_kept hR hi) (by rw [List.length_append, List.length_take, List.length_drop]; omega)
end Go.Proofs.Ytbchmbddcdionaa.Code

/- plain: the children of an item, and where a new one stands: mathematics. -/
set_option linter.unusedSimpArgs false
set_option linter.unusedVariables false
namespace Go.Proofs.Ytbchmbddcdionaa.Code
open Go.Proofs.Ytbchmbddcdionaa.Ev

/-- the children of an item (or the roots, for -1) up to a place -/
def chTo (b : Base) (f : List Item) (p : Int) (n : Nat) : List Nat := (List.range n).filter fun k => decide (par b.types f k = p)
def chl (b : Base) (f : List Item) (p : Int) : List Nat := chTo b f p f.length
theorem mem_chTo {b : Base} {f : List Item} {p : Int} {n k : Nat} : k ∈ chTo b f p n ↔ k < n ∧ par b.types f k = p := by
  simp [chTo]
theorem chTo_succ (b : Base) (f : List Item) (p : Int) (n : Nat) : chTo b f p (n + 1) = chTo b f p n ++ (if par b.types f n = p then [n] else []) := by
  unfold chTo
  rw [List.range_succ, List.filter_append]
  congr 1
  by_cases h : par b.types f n = p
  · rw [if_pos h]; simp [h]
  · rw [if_neg h]; simp [h]
theorem chTo_same {b : Base} {f : List Item} {p : Int} {m : Nat} : ∀ {n : Nat}, m ≤ n → (∀ j, m ≤ j → j < n → par b.types f j ≠ p) → chTo b f p n = chTo b f p m := by
  intro n
  induction n with
  | zero => intro h _; rw [show m = 0 by omega]
  | succ n ih =>
    intro h hj
    by_cases e : m = n + 1
    · rw [e]
    · rw [chTo_succ, if_neg (hj n (by omega) (by omega)), List.append_nil]
      exact ih (by omega) fun j h1 h2 => hj j h1 (by omega)
/-- where the children of an item end -/
def kidEnd (b : Base) (f : List Item) (p : Int) : Nat := if p < 0 then f.length else endOf b.types f p.toNat
theorem par_mem {b : Base} {f : List Item} {j : Nat} (hj : j < f.length) {p : Nat} (h : par b.types f j = (p : Int)) : (p : Int) ∈ pth b.types f j := by
  rw [pth_eq b.types f hj, h, pthI_nat]
  exact List.mem_append_left _ (pth_self ..)
theorem mem_par {b : Base} {f : List Item} {j : Nat} (hj : j < f.length) {a : Int} (h : a ∈ pth b.types f j) (hne : a ≠ (j : Int)) : 0 ≤ par b.types f j ∧ a ∈ pth b.types f (par b.types f j).toNat := by
  rw [pth_eq b.types f hj] at h
  rcases List.mem_append.1 h with h | h
  · by_cases h0 : par b.types f j < 0
    · rw [pthI_neg _ _ h0] at h; cases h
    · obtain ⟨q, hq⟩ : ∃ q : Nat, par b.types f j = (q : Int) := ⟨(par b.types f j).toNat, by omega⟩
      rw [hq, pthI_nat] at h
      exact ⟨by omega, by rw [hq]; exact h⟩
  · simp at h; exact absurd h hne
/-- the place behind a child's subtree: the next child, or the end -/
theorem next_child {b : Base} {f : List Item} (h : Right b f) {p : Int} (hp : -1 ≤ p) {k : Nat} (hk : k < f.length) (hkp : par b.types f k = p) :
    (∀ j, k < j → j < endOf b.types f k → par b.types f j ≠ p) ∧ (∀ e, e = endOf b.types f k → e < f.length → (p < 0 ∨ p ∈ pth b.types f e) → par b.types f e = p) := by
  have he := endOf_is b.types f hk
  have hpk := par_lt b.types f k
  refine ⟨fun j h1 h2 hc => ?_, fun e e0 hel hsub => ?_⟩
  · have hjl : j < f.length := by have := he.le; omega
    have hm := he.all j h1 h2
    obtain ⟨h3, h4⟩ := mem_par hjl hm (by omega)
    have := (pth_bound h4).2
    omega
  · subst e0
    have hno := he.no hel
    have hlt := he.lt
    have hpe := par_lt b.types f (endOf b.types f k)
    generalize endOf b.types f k = e at *
    apply Classical.byContradiction
    intro hc
    -- the parent is behind p
    have hq : p < par b.types f e := by
      rcases hsub with hs | hs
      · omega
      · obtain ⟨h3, h4⟩ := mem_par hel hs (by omega)
        have := (pth_bound h4).2
        omega
    obtain ⟨q, hqq⟩ : ∃ q : Nat, par b.types f e = (q : Int) := ⟨(par b.types f e).toNat, by omega⟩
    have hqe := par_mem hel hqq
    by_cases hqk : q ≤ k
    · have := way_between (Nat.le_refl _) h.ok e hel (q : Int) hqe k (by omega) (by omega)
      by_cases e1 : q = k
      · subst e1; exact hno hqe
      · obtain ⟨h3, h4⟩ := mem_par hk this (by omega)
        have := (pth_bound h4).2
        omega
    · have := he.all q (by omega) (by omega)
      exact hno (anc_trans _ hqe this)
theorem kid_first {b : Base} {f : List Item} (h : Right b f) {p : Int} (hp : -1 ≤ p) (hpl : p < (f.length : Int)) {s : Nat} (hs : (s : Int) = p + 1) : chTo b f p s = [] ∧ s ≤ kidEnd b f p ∧ (s < kidEnd b f p → par b.types f s = p) ∧ kidEnd b f p ≤ f.length := by
  have hno : chTo b f p s = [] := by
    rw [List.eq_nil_iff_forall_not_mem]
    intro k hk
    have := mem_chTo.1 hk
    have := par_lt b.types f k
    omega
  unfold kidEnd
  by_cases h0 : p < 0
  · rw [if_pos h0]
    have hs0 : s = 0 := by omega
    subst hs0
    refine ⟨hno, Nat.zero_le _, fun hl => ?_, Nat.le_refl _⟩
    have := par_lt b.types f 0
    omega
  · rw [if_neg h0]
    obtain ⟨q, rfl⟩ : ∃ q : Nat, p = (q : Int) := ⟨p.toNat, by omega⟩
    rw [Int.toNat_natCast]
    have he := endOf_is b.types f (i := q) (by omega)
    have hsq : s = q + 1 := by omega
    subst hsq
    refine ⟨hno, he.lt, fun hl => ?_, he.le⟩
    have hsl : q + 1 < f.length := by have := he.le; omega
    have hm := he.all (q + 1) (by omega) hl
    obtain ⟨h3, h4⟩ := mem_par hsl hm (by omega)
    have := (pth_bound h4).2
    have := par_lt b.types f (q + 1)
    omega
theorem kid_last {b : Base} {f : List Item} (h : Right b f) {p : Int} (hp : -1 ≤ p) (hpl : p < (f.length : Int)) : chl b f p = chTo b f p (kidEnd b f p) := by
  unfold chl kidEnd
  by_cases h0 : p < 0
  · rw [if_pos h0]
  · rw [if_neg h0]
    obtain ⟨q, rfl⟩ : ∃ q : Nat, p = (q : Int) := ⟨p.toNat, by omega⟩
    rw [Int.toNat_natCast]
    have he := endOf_is b.types f (i := q) (by omega)
    refine chTo_same he.le fun j h1 h2 hc => ?_
    have hm := par_mem h2 hc
    have hel : endOf b.types f q < f.length := by omega
    exact he.no hel (way_between (Nat.le_refl _) h.ok j h2 (q : Int) hm _ (by have := he.lt; omega) h1)
theorem kid_sub {b : Base} {f : List Item} {p : Int} (hp : -1 ≤ p) (hpl : p < (f.length : Int)) {e : Nat} (h1 : p < (e : Int)) (h2 : e < kidEnd b f p) : p < 0 ∨ p ∈ pth b.types f e := by
  unfold kidEnd at h2
  by_cases h0 : p < 0
  · exact .inl h0
  · rw [if_neg h0] at h2
    obtain ⟨q, rfl⟩ : ∃ q : Nat, p = (q : Int) := ⟨p.toNat, by omega⟩
    rw [Int.toNat_natCast] at h2
    exact .inr ((endOf_is b.types f (i := q) (by omega)).all e (by omega) h2)
theorem kid_end_le {b : Base} {f : List Item} (h : Right b f) {p : Int} (hp : -1 ≤ p) (hpl : p < (f.length : Int)) {k : Nat} (hk : k < kidEnd b f p) (hkp : par b.types f k = p) : endOf b.types f k ≤ kidEnd b f p := by
  have hkl : k < f.length := by
    have := (kid_first h hp hpl (s := (p + 1).toNat) (by omega)).2.2.2
    omega
  have he := endOf_is b.types f hkl
  unfold kidEnd at *
  by_cases h0 : p < 0
  · rw [if_pos h0]; exact he.le
  · rw [if_neg h0] at hk ⊢
    obtain ⟨q, rfl⟩ : ∃ q : Nat, p = (q : Int) := ⟨p.toNat, by omega⟩
    rw [Int.toNat_natCast] at *
    have hq := endOf_is b.types f (i := q) (by omega)
    apply Classical.byContradiction
    intro hc
    have hql : endOf b.types f q < f.length := by have := he.le; omega
    have hm := he.all (endOf b.types f q) hk (by omega)
    exact hq.no hql (anc_trans _ hm (par_mem hkl hkp))
/-- a step of the program's walk over children -/
theorem kid_step {b : Base} {f : List Item} (h : Right b f) {p : Int} (hp : -1 ≤ p) (hpl : p < (f.length : Int)) {k : Nat} (hk : k < kidEnd b f p) (hkp : par b.types f k = p) :
    k < endOf b.types f k ∧ endOf b.types f k ≤ kidEnd b f p ∧ (endOf b.types f k < kidEnd b f p → par b.types f (endOf b.types f k) = p) ∧ chTo b f p (endOf b.types f k) = chTo b f p k ++ [k] := by
  have hle := (kid_first h hp hpl (s := (p + 1).toNat) (by omega)).2.2.2
  have hkl : k < f.length := by omega
  have he := endOf_is b.types f hkl
  have h1 := kid_end_le h hp hpl hk hkp
  obtain ⟨h2, h3⟩ := next_child h hp hkl hkp
  have hpk := par_lt b.types f k
  have hlt := he.lt
  refine ⟨hlt, h1, fun h4 => h3 _ rfl (by omega) (kid_sub hp hpl (by omega) h4), ?_⟩
  rw [chTo_same (m := k + 1) (by omega) fun j a1 a2 => h2 j (by omega) a2, chTo_succ, if_pos hkp]
/- where a new one stands -/
def kKey (b : Base) (f : List Item) (t : Int) (k : Nat) : ByteArray := keyOf (tyOf b.types t) (dat f (k : Int))
def front (b : Base) (f : List Item) (t : Int) (s : ByteArray) (k : Nat) : Bool :=
  decide (typ f (k : Int) < t) || (decide (typ f (k : Int) = t) && (bLt (kKey b f t k) s || (decide (kKey b f t k = s) && (tyOf b.types t).last)))
theorem front_mono {b : Base} {f : List Item} (h : Right b f) {p : Int} {k k' : Nat} (hkk : k < k') (hk' : k' < f.length) (h1 : par b.types f k = p) (h2 : par b.types f k' = p) {t : Int} {s : ByteArray} (hf : front b f t s k' = true) : front b f t s k = true := by
  obtain ⟨x, hx⟩ : ∃ x, f[k']? = some x := ⟨_, List.getElem?_eq_getElem hk'⟩
  have hkl : k < f.length := by omega
  have hpth := pth_eq b.types f hkl
  have hcond : par b.types f k' < 0 ∨ par b.types f k' ∈ pth b.types f k := by
    by_cases h0 : par b.types f k' < 0
    · exact .inl h0
    · obtain ⟨q, hq⟩ : ∃ q : Nat, p = (q : Int) := ⟨p.toNat, by omega⟩
      rw [h2, hq]
      exact .inr (par_mem hkl (by rw [h1, hq]))
  have hc : (pth b.types f k)[nOf b.types f k']? = some (k : Int) := by
    unfold nOf
    rw [hpth, h1, h2]
    simp
  have ho := sib_far h hx (k' - 1 - k) k rfl hkk hcond (k : Int) hc
  simp only [front, ordOk, typ_at hx, Bool.or_eq_true, Bool.and_eq_true, decide_eq_true_eq] at hf ho ⊢
  rcases ho with ho | ⟨ho, hi⟩
  · rcases hf with hf | ⟨hf, _⟩
    · exact .inl (by omega)
    · exact .inl (by omega)
  · rcases hf with hf | ⟨hf, hs⟩
    · exact .inl (by omega)
    · refine .inr ⟨by omega, ?_⟩
      have hkx : kKey b f t k' = keyOf (tyOf b.types t) x.data := by unfold kKey; rw [dat_at hx]
      have hkk : kKey b f t k = keyOf (tyOf b.types t) (dat f (k : Int)) := rfl
      rw [hf] at hi
      simp only [inOrd, Bool.or_eq_true, Bool.and_eq_true, decide_eq_true_eq] at hi
      rw [← hkx, ← hkk] at hi
      rcases hi with (hi | hi) | ⟨hi, _⟩
      · have e1 : kKey b f t k = kKey b f t k' := by
          unfold kKey keyOf; rw [if_pos hi, if_pos hi]
        rw [e1]; exact hs
      · rcases hs with hs | ⟨hs, _⟩
        · exact .inl (less_trans _ _ _ hi hs)
        · exact .inl (by rw [← hs]; exact hi)
      · rw [hi]; exact hs
def atP (b : Base) (f : List Item) (t : Int) (s : ByteArray) (st : Nat × Bool) (k : Nat) : Nat × Bool :=
  ((if (st.2 || !front b f t s k) = true then st.1 else endOf b.types f k), st.2 || !front b f t s k)
def atD (b : Base) (f : List Item) (t : Int) (s : ByteArray) (at' k : Nat) : Nat := if front b f t s k = true then endOf b.types f k else at'
theorem plAt_behind (b : Base) (f : List Item) (t : Int) (s : ByteArray) : ∀ (l : List Nat) (a : Nat), (l.foldl (atP b f t s) (a, true)).1 = a
  | [], a => rfl
  | k :: l, a => by
    rw [List.foldl_cons, show atP b f t s (a, true) k = (a, true) by simp [atP]]
    exact plAt_behind b f t s l a
theorem plAt_none (b : Base) (f : List Item) (t : Int) (s : ByteArray) : ∀ (l : List Nat) (a : Nat), (∀ k ∈ l, front b f t s k = false) → l.foldl (atD b f t s) a = a
  | [], a, _ => rfl
  | k :: l, a, h => by
    rw [List.foldl_cons, show atD b f t s a k = a by simp [atD, h k (List.mem_cons_self ..)]]
    exact plAt_none b f t s l a fun j hj => h j (List.mem_cons_of_mem _ hj)
theorem plAt_same (b : Base) (f : List Item) (t : Int) (s : ByteArray) : ∀ (l : List Nat) (a : Nat), l.Pairwise (fun k k' => front b f t s k' = true → front b f t s k = true) → (l.foldl (atP b f t s) (a, false)).1 = l.foldl (atD b f t s) a
  | [], a, _ => rfl
  | k :: l, a, h => by
    rw [List.pairwise_cons] at h
    rw [List.foldl_cons, List.foldl_cons]
    cases hf : front b f t s k with
    | true =>
      rw [show atP b f t s (a, false) k = (endOf b.types f k, false) by simp [atP, hf], show atD b f t s a k = endOf b.types f k by simp [atD, hf]]
      exact plAt_same b f t s l _ h.2
    | false =>
      rw [show atP b f t s (a, false) k = (a, true) by simp [atP, hf], show atD b f t s a k = a by simp [atD, hf], plAt_behind, plAt_none]
      intro j hj
      cases hc : front b f t s j with
      | false => rfl
      | true => rw [h.1 j hj hc] at hf; cases hf
theorem chl_rise (b : Base) (f : List Item) (p : Int) : (chl b f p).Pairwise (· < ·) := by
  unfold chl chTo
  exact List.Pairwise.filter _ List.pairwise_lt_range
theorem chl_mono {b : Base} {f : List Item} (h : Right b f) (p t : Int) (s : ByteArray) : (chl b f p).Pairwise (fun k k' => front b f t s k' = true → front b f t s k = true) := by
  refine List.pairwise_iff_getElem.2 fun i j hi hj hij hf => ?_
  have hlt := List.pairwise_iff_getElem.1 (chl_rise b f p) i j hi hj hij
  have m1 := mem_chTo.1 (List.getElem_mem hi)
  have m2 := mem_chTo.1 (List.getElem_mem hj)
  exact front_mono h hlt m2.1 m1.2 m2.2 hf
end Go.Proofs.Ytbchmbddcdionaa.Code

/- plain: the children of an item, and where a new one stands, of the program. -/
set_option linter.unusedSimpArgs false
set_option linter.unusedVariables false
namespace Go.Proofs.Ytbchmbddcdionaa.Code
open Go.Proofs.Ytbchmbddcdionaa.Ev

def nI (l : List Nat) : List Int := l.map fun (k : Nat) => (k : Int)
theorem nI_at {l : List Nat} {i k : Nat} (h : l[i]? = some k) : (nI l)[i]? = some (k : Int) := by simp [nI, h]
theorem nI_app (a b : List Nat) : nI (a ++ b) = nI a ++ nI b := by simp [nI]
theorem chTo_len (b : Base) (f : List Item) (p : Int) (n : Nat) : (chTo b f p n).length ≤ n := by
  unfold chTo
  have := List.length_filter_le (fun k => decide (par b.types f k = p)) (List.range n)
  simpa using this
theorem out_num {K X : Heap} {rv : AV} {l : List Int} (hO : Out K.length 1 3 X rv (l.map rI)) (hl : l.length ≤ 1000) (r : Int) : ∃ rv1 X1, appK 3 1 8 false (K ++ (X ++ [⟨0, true, 3, 1, [[.int .i64 r]]⟩])) (some rv) (some (.ref (K.length + X.length) 0 1 0 1)) = some (rv1, K ++ X1) ∧ rv1.isTup = false ∧ Out K.length 1 3 X1 rv1 ((l ++ [r]).map rI) := by
  obtain ⟨rv1, X1, a1, t1, O1⟩ := (hO.more [⟨0, true, 3, 1, [[.int .i64 r]]⟩]).app K rfl 8 (.ref (K.length + X.length) 0 1 0 1) [rI r] (by simp [srcRows, rowsOf, curBlk, ← List.append_assoc, rI]) (by simp [rI]) (by simp [reach]; omega)
  exact ⟨rv1, X1, a1, t1, by simpa using O1⟩
theorem f106 (b : Base) (f : List Item) (hr : Right b f) (p : Int) (hp : -1 ≤ p) (hpl : p < (f.length : Int)) (H : Heap) : cal (evC cprog) true 106 [eBase b, eItems f, .int .i64 p] H = some (eIs (nI (chl b f p)), H) := by
  rw [cal_of at106]
  have hfl := hr.len
  have hlen := (sItems [] f).len
  simp only [List.length_map] at hlen
  obtain ⟨K, hK⟩ : ∃ K : Heap, K = H ++ [bBase b] := ⟨_, rfl⟩
  have kt : ∀ Z, (K ++ Z).take H.length = H := fun Z => by rw [hK]; simp
  have kl : K.length = H.length + 1 := by rw [hK]; simp
  have kb : ∀ Z, (K ++ Z)[H.length]? = some (bBase b) := fun Z => by rw [hK]; simp
  obtain ⟨s, hs⟩ : ∃ s : Nat, (s : Int) = p + 1 := ⟨(p + 1).toNat, by omega⟩
  obtain ⟨k1, k2, k3, k4⟩ := kid_first hr hp hpl hs
  have L := fun (st : St) (hE : keepEnv st.1 [1, 3, 8, 9, 10] = [(1, eItems f), (3, .ptr H.length 0 4 0 0), (8, .int .i64 ((kidEnd b f p : Nat) : Int)), (9, .nils), (10, .int .i64 (s : Int))]) (hH : st.2 = K) (z : Option (CX × St)) (hz : itLim (evCode (evC cprog) itLim c106_l0) st = z) =>
    loop_rule (σ := Nat × Heap × AV) (m := [1, 3, 8, 9, 10]) (env := fun x => [(1, eItems f), (3, .ptr H.length 0 4 0 0), (8, .int .i64 ((kidEnd b f p : Nat) : Int)), (9, x.2.2), (10, .int .i64 (x.1 : Int))]) (hp := fun x => K ++ x.2.1)
    (P := fun _ r => ∃ T X rv, r = (.exit 0, T, K ++ X) ∧ keepEnv T [9] = [(9, rv)] ∧ Out K.length 1 3 X rv ((nI (chl b f p)).map rI))
    (mu := fun x => kidEnd b f p - x.1) (I := fun x => x.1 ≤ kidEnd b f p ∧ (x.1 < kidEnd b f p → par b.types f x.1 = p) ∧ Out K.length 1 3 x.2.1 x.2.2 ((nI (chTo b f p x.1)).map rI)) (evCode (evC cprog) itLim c106_l0) (by
      intro ⟨k, X, rv⟩ ⟨hk, hkp, hO⟩ E hE
      simp only at hk hkp hO hE ⊢
      by_cases hlt : k < kidEnd b f p
      · have hkl : k < f.length := by omega
        obtain ⟨s1, s2, s3, s4⟩ := kid_step hr hp hpl hlt (hkp hlt)
        have hii : (k : Int) < ((kidEnd b f p : Nat) : Int) := by omega
        have h63 := fun H => f63 b f hr k hkl H
        have hcl := chTo_len b f p k
        obtain ⟨rv1, X1, a1, t1, O1⟩ := out_num hO (by simp [nI]; omega) (k : Int)
        rw [show nI (chTo b f p k) ++ [(k : Int)] = nI (chTo b f p (endOf b.types f k)) by rw [s4, nI_app]; rfl] at O1
        simp only [bBase] at kb
        simp only [eBase] at h63
        generalize kidEnd b f p = e at *
        simp only [c106_l0, hE, hii, kb, a1, t1, h63, evX, Int.reduceEq, Int.reduceLT, Int.reduceLE, Nat.reduceMul, Nat.reduceMod, evW, fn_eq, evR, Nat.reduceAdd, Nat.reduceLT, Nat.reduceLeDiff, reduceIte, Nat.reduceEqDiff, reduceCtorEq, argEnv, eq_self, if_true, if_false]
        exact q_next (endOf b.types f k, X1, rv1) (by rfl) rfl ⟨s2, s3, O1⟩ (by simp only; omega) fun r h => h
      · have hii : ¬ (k : Int) < ((kidEnd b f p : Nat) : Int) := by omega
        have hke : k = kidEnd b f p := by omega
        rw [hke, ← kid_last hr hp hpl] at hO
        simp only [c106_l0, hE, hii, evX, Int.reduceEq, Int.reduceLT, Int.reduceLE, Nat.reduceMul, Nat.reduceMod, evW, fn_eq, evR, Nat.reduceAdd, Nat.reduceLT, Nat.reduceLeDiff, reduceIte, Nat.reduceEqDiff, reduceCtorEq, argEnv, eq_self, if_true, if_false]
        exact q_exit ⟨_, X, rv, rfl, by rfl, hO⟩) (s, [], .nils) st ⟨k2, k3, by rw [k1]; exact .nils ..⟩ hE (by simpa using hH) z hz
  by_cases h0 : (0 : Int) ≤ p
  · obtain ⟨q, rfl⟩ : ∃ q : Nat, p = (q : Int) := ⟨p.toNat, by omega⟩
    have h63 := fun H => f63 b f hr q (by omega) H
    have hke : kidEnd b f (q : Int) = endOf b.types f q := by unfold kidEnd; rw [if_neg (by omega)]; rfl
    rw [hke] at L
    have hw : IntKind.i64.wrap ((q : Int) + 1) = (s : Int) := by rw [wrap_i64 (by omega) (by omega)]; omega
    simp only [bBase] at kb hK
    simp only [eBase] at h63
    simp only [c106, eBase, hlen, h0, hw, h63, evX, Int.reduceEq, Int.reduceLT, Int.reduceLE, Nat.reduceMul, Nat.reduceMod, evW, fn_eq, evR, Nat.reduceAdd, Nat.reduceLT, Nat.reduceLeDiff, reduceIte, Nat.reduceEqDiff, reduceCtorEq, argEnv, eq_self, if_true, if_false]
    generalize hz : itLim _ _ = z
    obtain ⟨_, rfl, T, X, rv, rfl, hT, hO⟩ := L _ (by rfl) (by rw [hK]) z hz
    clear hz L
    obtain ⟨ids, g1, g2, g3⟩ := fz_out' hO K rfl (plain_ints _)
    have hsc := out_tup hO
    have ht := kt X
    generalize K ++ X = Z at *
    simp only [hT, hsc, evX, Int.reduceEq, Int.reduceLT, Int.reduceLE, Nat.reduceMul, Nat.reduceMod, evW, fn_eq, evR, Nat.reduceAdd, Nat.reduceLT, Nat.reduceLeDiff, reduceIte, Nat.reduceEqDiff, reduceCtorEq, argEnv, eq_self, if_true, if_false]
    exact frz_one g1 g3 ht (fun k hk => by have := g2 k hk; omega)
  · have hke : kidEnd b f p = f.length := by unfold kidEnd; rw [if_pos (by omega)]
    have hs0 : s = 0 := by omega
    subst hs0
    rw [hke] at L
    simp only [bBase] at kb hK
    simp only [c106, eBase, hlen, h0, evX, Int.reduceEq, Int.reduceLT, Int.reduceLE, Nat.reduceMul, Nat.reduceMod, evW, fn_eq, evR, Nat.reduceAdd, Nat.reduceLT, Nat.reduceLeDiff, reduceIte, Nat.reduceEqDiff, reduceCtorEq, argEnv, eq_self, if_true, if_false]
    generalize hz : itLim _ _ = z
    obtain ⟨_, rfl, T, X, rv, rfl, hT, hO⟩ := L _ (by rfl) (by rw [hK]) z hz
    clear hz L
    obtain ⟨ids, g1, g2, g3⟩ := fz_out' hO K rfl (plain_ints _)
    have hsc := out_tup hO
    have ht := kt X
    generalize K ++ X = Z at *
    simp only [hT, hsc, evX, Int.reduceEq, Int.reduceLT, Int.reduceLE, Nat.reduceMul, Nat.reduceMod, evW, fn_eq, evR, Nat.reduceAdd, Nat.reduceLT, Nat.reduceLeDiff, reduceIte, Nat.reduceEqDiff, reduceCtorEq, argEnv, eq_self, if_true, if_false]
    exact frz_one g1 g3 ht (fun k hk => by have := g2 k hk; omega)
end Go.Proofs.Ytbchmbddcdionaa.Code

/- plain: where a new item stands, of the program: the walk. -/
set_option linter.unusedSimpArgs false
set_option linter.unusedVariables false
namespace Go.Proofs.Ytbchmbddcdionaa.Code
open Go.Proofs.Ytbchmbddcdionaa.Ev

def argOk (b : Base) (f : List Item) (p t : Int) (d : ByteArray) : Bool := decide (-1 ≤ p) && decide (p < (f.length : Int)) && fits b.types ⟨t, d⟩ && (if p < 0 then decide (t = 0) else decide (tpar b.types t = typ f p))
def isTwin (b : Base) (f : List Item) (t : Int) (s : ByteArray) (k : Nat) : Bool := decide (typ f (k : Int) = t) && ((tyOf b.types t).unique && decide (kKey b f t k = s))
def twice (b : Base) (f : List Item) (p t : Int) (s : ByteArray) : Bool := (chl b f p).any (isTwin b f t s)
noncomputable def placeE (b : Base) (f : List Item) (p t : Int) (d : ByteArray) : Int :=
  if errF b f [] = 0 then (if argOk b f p t d = true then (if twice b f p t (keyOf (tyOf b.types t) d) = true then 90 else 0) else 2) else errF b f []
noncomputable def placeN (b : Base) (f : List Item) (p t : Int) (d : ByteArray) : Nat := (chl b f p).foldl (atD b f t (keyOf (tyOf b.types t) d)) (p + 1).toNat
noncomputable def placeR (b : Base) (f : List Item) (p t : Int) (d : ByteArray) : Int := if placeE b f p t d = 0 then (placeN b f p t d : Int) else 0
def stP (b : Base) (f : List Item) (p t : Int) (s : ByteArray) (i : Nat) : Nat × Bool := ((chl b f p).take i).foldl (atP b f t s) ((p + 1).toNat, false)
theorem stP_step (b : Base) (f : List Item) (p t : Int) (s : ByteArray) {i k : Nat} (hk : (chl b f p)[i]? = some k) : stP b f p t s (i + 1) = atP b f t s (stP b f p t s i) k := by
  unfold stP
  rw [List.take_add_one, hk, Option.toList_some, List.foldl_append]; rfl
set_option maxHeartbeats 4000000 in
theorem l83 (b : Base) (f : List Item) (hr : Right b f) (p : Int) (ti : Nat) (ty : Ty) (hty : b.types[ti]? = some ty) (hok : tyOk ty = true) (s : ByteArray) (H : Heap) (n m : Nat) (hn : ∀ Z, (H ++ Z)[n]? = some (bBase b)) (hm : ∀ Z, (H ++ Z)[m]? = some (bTy ty)) (st : St)
    (hE : keepEnv st.1 [1, 3, 5, 13, 14, 15, 16, 83, 84, 85] = [(1, eItems f), (3, .int .i64 (ti : Int)), (5, .ptr n 0 4 0 0), (13, .ptr m 0 8 0 0), (14, .int .i64 (((p + 1).toNat : Nat) : Int)), (15, .str s), (16, .bool false), (83, eIs (nI (chl b f p))), (84, .int .i64 ((chl b f p).length : Int)), (85, .int .i64 0)]) (hH : st.2 = H)
    (z : Option (CX × St)) (hz : itLim (evCode (evC cprog) itLim c83_l0) st = z) :
    (twice b f p (ti : Int) s = false ∧ ∃ T G, z = some (.exit 1, T, H ++ G) ∧ keepEnv T [14] = [(14, .int .i64 ((((chl b f p).foldl (atP b f (ti : Int) s) ((p + 1).toNat, false)).1 : Nat) : Int))]) ∨
    (twice b f p (ti : Int) s = true ∧ ∃ T G, z = some (.ret, T, H ++ G) ∧ get T 10 = some (.int .i64 0) ∧ get T 11 = some (.int .i64 90)) := by
  have hfl := hr.len
  have htyo : tyOf b.types (ti : Int) = ty := tyOf_at hty
  have L := scan_rule (chl b f p) (fun _ k => !isTwin b f (ti : Int) s k) [1, 3, 5, 13, 14, 15, 16, 83, 84, 85] (fun i => [(1, eItems f), (3, .int .i64 (ti : Int)), (5, .ptr n 0 4 0 0), (13, .ptr m 0 8 0 0), (14, .int .i64 ((stP b f p (ti : Int) s i).1 : Int)), (15, .str s), (16, .bool (stP b f p (ti : Int) s i).2), (83, eIs (nI (chl b f p))), (84, .int .i64 ((chl b f p).length : Int)), (85, .int .i64 (i : Int))]) H [] (evCode (evC cprog) itLim c83_l0)
    (fun c T => c = .exit 1 ∧ keepEnv T [14] = [(14, .int .i64 ((stP b f p (ti : Int) s (chl b f p).length).1 : Int))]) (fun i k c T => c = .ret ∧ get T 10 = some (.int .i64 0) ∧ get T 11 = some (.int .i64 90))
    (fun i k hk E G hE => by
      have hlt : i < (chl b f p).length := (List.getElem?_eq_some_iff.1 hk).1
      have hii : (i : Int) < ((chl b f p).length : Int) := by omega
      have hcl := chTo_len b f p f.length
      have hcl' : (chl b f p).length ≤ f.length := hcl
      have hkm := mem_chTo.1 (List.mem_of_getElem? hk)
      obtain ⟨x, kk, t0, hx, hxt, _, ht0, _, hmin, _⟩ := hr.item hkm.1
      have ha := aI (nI_at hk)
      have hax := aItem hx
      have hld := fun (H : Heap) (a : AV) => (rfl : loadK false 1 H (some (.fptr [a])) = some a)
      have hws : IntKind.i64.wrap ((i : Int) + 1) = ((i + 1 : Nat) : Int) := by rw [wrap_i64 (by omega) (by omega)]; omega
      have h63 := fun H => f63 b f hr k hkm.1 H
      have hst := stP_step b f p (ti : Int) s hk
      have hfr : front b f (ti : Int) s k = (decide (x.type < (ti : Int)) || (decide (x.type = (ti : Int)) && (bLt (keyOf ty x.data) s || (decide (keyOf ty x.data = s) && ty.last)))) := by
        unfold front kKey
        rw [typ_at hx, dat_at hx, htyo]
      have htw : isTwin b f (ti : Int) s k = (decide (x.type = (ti : Int)) && (ty.unique && decide (keyOf ty x.data = s))) := by
        unfold isTwin kKey
        rw [typ_at hx, dat_at hx, htyo]
      simp only [eBase] at h63
      simp only [bBase] at hn
      simp only [bTy] at hm
      unfold atP at hst
      rw [hfr] at hst
      rw [htw]
      generalize hS : stP b f p (ti : Int) s i = S at *
      generalize hS1 : stP b f p (ti : Int) s (i + 1) = S1 at *
      obtain ⟨at0, bh⟩ := S
      simp only at hst hE
      generalize (chl b f p).length = cl at *
      generalize nI (chl b f p) = ks at *
      rcases Int.lt_trichotomy x.type (ti : Int) with c | c | c
      · have c1 : (x.type < (ti : Int)) = True := eq_true c
        have c2 : (x.type = (ti : Int)) = False := eq_false (by omega)
        simp only [c1, c2, decide_true, decide_false, Bool.true_or, Bool.not_true, Bool.or_false] at hst
        simp only [c2, decide_false, Bool.false_and]
        clear c
        cases bh with
        | true =>
          simp only [if_true] at hst
          simp only [c83_l0, hE, hii, ha, rI, hld, hax, rItem, c1, c2, hws, evX, Int.reduceEq, Int.reduceLT, Int.reduceLE, Nat.reduceMul, Nat.reduceMod, evW, fn_eq, evR, Nat.reduceAdd, Nat.reduceLT, Nat.reduceLeDiff, reduceIte, Nat.reduceEqDiff, reduceCtorEq, argEnv, eq_self, if_true, if_false]
          exact Sc.next rfl (by simp only [hst]; rfl)
        | false =>
          simp only [Bool.false_eq_true, if_false] at hst
          simp only [c83_l0, hE, hii, ha, rI, hld, hax, rItem, c1, c2, hn, h63, hws, evX, Int.reduceEq, Int.reduceLT, Int.reduceLE, Nat.reduceMul, Nat.reduceMod, evW, fn_eq, evR, Nat.reduceAdd, Nat.reduceLT, Nat.reduceLeDiff, reduceIte, Nat.reduceEqDiff, reduceCtorEq, argEnv, eq_self, if_true, if_false]
          exact Sc.next rfl (by simp only [hst]; rfl)
      · have c2 : (x.type = (ti : Int)) = True := eq_true c
        have c1 : (x.type < (ti : Int)) = False := eq_false (by omega)
        have hty0 : t0 = ty := by
          have e : kk = ti := by omega
          rw [e, hty] at ht0
          cases ht0; rfl
        have h105 := fun H => f105 ty hok x.data (by rw [← hty0]; exact hmin) H
        simp only [c1, c2, decide_true, decide_false, Bool.false_or, Bool.true_and] at hst
        simp only [c2, decide_true, Bool.true_and]
        clear c hxt
        generalize keyOf ty x.data = ky at *
        simp only [rTy] at h105 hm
        obtain ⟨nm, pa, mi, si, fs, ke, u, la⟩ := ty
        simp only at h105 hm hst ⊢
        by_cases ks' : ky = s
        · have k1 : (ky = s) = True := eq_true ks'
          have k2 : bLt ky s = false := by rw [ks']; exact bLt_irrefl s
          simp only [k1, k2, decide_true, Bool.false_or, Bool.true_and, Bool.and_true] at hst ⊢
          clear ks'
          cases u with
          | true =>
            simp only [c83_l0, hE, hii, ha, rI, hld, hax, rItem, c1, c2, hm, h105, k1, evX, Int.reduceEq, Int.reduceLT, Int.reduceLE, Nat.reduceMul, Nat.reduceMod, evW, fn_eq, evR, Nat.reduceAdd, Nat.reduceLT, Nat.reduceLeDiff, reduceIte, Nat.reduceEqDiff, reduceCtorEq, argEnv, eq_self, if_true, if_false]
            exact Sc.ret rfl ⟨rfl, by rfl, by rfl⟩
          | false =>
            cases la <;> cases bh <;> simp only [Bool.or_false, Bool.false_or, Bool.or_true, Bool.true_or, Bool.not_true, Bool.not_false, Bool.false_eq_true, if_true, if_false] at hst
            all_goals
              simp only [c83_l0, hE, hii, ha, rI, hld, hax, rItem, c1, c2, hm, hn, h63, h105, k1, k2, hws, evX, Int.reduceEq, Int.reduceLT, Int.reduceLE, Nat.reduceMul, Nat.reduceMod, evW, fn_eq, evR, Nat.reduceAdd, Nat.reduceLT, Nat.reduceLeDiff, reduceIte, Nat.reduceEqDiff, reduceCtorEq, argEnv, eq_self, if_true, if_false]
              exact Sc.next rfl (by simp only [hst]; rfl)
        · have k1 : (ky = s) = False := eq_false ks'
          simp only [k1, decide_false, Bool.false_and, Bool.or_false, Bool.and_false] at hst ⊢
          clear ks'
          cases k2 : bLt ky s <;> cases u <;> cases bh <;> simp only [k2, Bool.or_false, Bool.false_or, Bool.or_true, Bool.true_or, Bool.not_true, Bool.not_false, Bool.false_eq_true, if_true, if_false] at hst
          all_goals
            simp only [c83_l0, hE, hii, ha, rI, hld, hax, rItem, c1, c2, hm, hn, h63, h105, k1, k2, hws, evX, Int.reduceEq, Int.reduceLT, Int.reduceLE, Nat.reduceMul, Nat.reduceMod, evW, fn_eq, evR, Nat.reduceAdd, Nat.reduceLT, Nat.reduceLeDiff, reduceIte, Nat.reduceEqDiff, reduceCtorEq, argEnv, eq_self, if_true, if_false]
            exact Sc.next rfl (by simp only [hst]; rfl)
      · have c2 : (x.type = (ti : Int)) = False := eq_false (by omega)
        have c1 : (x.type < (ti : Int)) = False := eq_false (by omega)
        simp only [c1, c2, decide_false, Bool.false_or, Bool.false_and, Bool.not_false, Bool.or_true, if_true] at hst
        simp only [c2, decide_false, Bool.false_and]
        clear c
        cases bh with
        | true =>
          simp only [c83_l0, hE, hii, ha, rI, hld, hax, rItem, c1, c2, hws, evX, Int.reduceEq, Int.reduceLT, Int.reduceLE, Nat.reduceMul, Nat.reduceMod, evW, fn_eq, evR, Nat.reduceAdd, Nat.reduceLT, Nat.reduceLeDiff, reduceIte, Nat.reduceEqDiff, reduceCtorEq, argEnv, eq_self, if_true, if_false]
          exact Sc.next rfl (by simp only [hst]; rfl)
        | false =>
          simp only [c83_l0, hE, hii, ha, rI, hld, hax, rItem, c1, c2, hws, evX, Int.reduceEq, Int.reduceLT, Int.reduceLE, Nat.reduceMul, Nat.reduceMod, evW, fn_eq, evR, Nat.reduceAdd, Nat.reduceLT, Nat.reduceLeDiff, reduceIte, Nat.reduceEqDiff, reduceCtorEq, argEnv, eq_self, if_true, if_false]
          exact Sc.next rfl (by simp only [hst]; rfl))
    (fun E G hE => by
      generalize hks : nI (chl b f p) = ks at *
      simp only [c83_l0, hE, Int.lt_irrefl, evX, Int.reduceEq, Int.reduceLT, Int.reduceLE, Nat.reduceMul, Nat.reduceMod, evW, fn_eq, evR, Nat.reduceAdd, Nat.reduceLT, Nat.reduceLeDiff, reduceIte, Nat.reduceEqDiff, reduceCtorEq, argEnv, eq_self, if_true, if_false]
      exact .exit (K := []) ⟨rfl, by rfl⟩) st [] (by rw [hE]; rfl) (by simpa using hH) z hz
  rcases L with ⟨hall, c, T, G, rfl, _, rfl, hT⟩ | ⟨i, x, hx, hno, hb, c, T, G, rfl, _, rfl, hT1, hT2⟩
  · refine .inl ⟨?_, T, G, by simp, ?_⟩
    · unfold twice
      rw [List.any_eq_false]
      intro k hk
      obtain ⟨i, hi⟩ := List.getElem?_of_mem hk
      have := hall i k hi
      simpa using this
    · unfold stP at hT
      rw [List.take_length] at hT
      exact hT
  · refine .inr ⟨?_, T, G, by simp, hT1, hT2⟩
    · unfold twice
      rw [List.any_eq_true]
      exact ⟨x, List.mem_of_getElem? hx, by simpa using hno⟩
end Go.Proofs.Ytbchmbddcdionaa.Code

/- plain: where a new item stands, of the program: place. -/
set_option linter.unusedSimpArgs false
set_option linter.unusedVariables false
namespace Go.Proofs.Ytbchmbddcdionaa.Code
open Go.Proofs.Ytbchmbddcdionaa.Ev

theorem argOk_at {b : Base} {f : List Item} {p t : Int} {d : ByteArray} (h : argOk b f p t d = true) : -1 ≤ p ∧ p < (f.length : Int) ∧ fits b.types ⟨t, d⟩ = true ∧ ((p < 0 ∧ t = 0) ∨ (0 ≤ p ∧ tpar b.types t = typ f p)) := by
  simp only [argOk, Bool.and_eq_true, decide_eq_true_eq] at h
  obtain ⟨⟨⟨h1, h2⟩, h3⟩, h4⟩ := h
  refine ⟨h1, h2, h3, ?_⟩
  split at h4
  · rename_i hp; exact .inl ⟨hp, of_decide_eq_true h4⟩
  · rename_i hp; exact .inr ⟨by omega, of_decide_eq_true h4⟩
set_option maxHeartbeats 4000000 in
theorem f83 (b : Base) (hb : b.Ok) (f : List Item) (hfl : f.length < 9223372036854775807) (p t : Int) (d : ByteArray) (H : Heap) :
    cal (evC cprog) false 83 [eBase b, eItems f, .int .i64 p, .int .i64 t, .str d] H = some (.tup [.int .i64 (placeR b f p t d), .int .i64 (placeE b f p t d)], H) := by
  rw [cal_of at83]
  have h61 := fun K => f61 b hb f .nils rfl [] (by simp) K (nil_slat K)
  simp only [eBase] at h61
  have hlen := (sItems [] f).len
  simp only [List.length_map] at hlen
  by_cases he : errF b f [] = 0
  · have hr := (errF_zero hb he).1
    have hfl2 := hr.len
    rw [he] at h61
    have bad : argOk b f p t d = false → placeE b f p t d = 2 ∧ placeR b f p t d = 0 := fun h => by
      have e : placeE b f p t d = 2 := by unfold placeE; rw [if_pos he, if_neg (by rw [h]; simp)]
      exact ⟨e, by unfold placeR; rw [e]; rfl⟩
    by_cases c1 : p < -1
    · obtain ⟨e1, e2⟩ := bad (by simp [argOk]; omega)
      rw [e1, e2]
      simp only [c83, eBase, h61, hlen, c1, evX, Int.reduceEq, Int.reduceLT, Int.reduceLE, Nat.reduceMul, Nat.reduceMod, evW, fn_eq, evR, Nat.reduceAdd, Nat.reduceLT, Nat.reduceLeDiff, reduceIte, Nat.reduceEqDiff, reduceCtorEq, argEnv, eq_self, if_true, if_false]
    by_cases c2 : (f.length : Int) ≤ p
    · obtain ⟨e1, e2⟩ := bad (by simp [argOk]; omega)
      rw [e1, e2]
      simp only [c83, eBase, h61, hlen, c1, c2, evX, Int.reduceEq, Int.reduceLT, Int.reduceLE, Nat.reduceMul, Nat.reduceMod, evW, fn_eq, evR, Nat.reduceAdd, Nat.reduceLT, Nat.reduceLeDiff, reduceIte, Nat.reduceEqDiff, reduceCtorEq, argEnv, eq_self, if_true, if_false]
    have h104 := fun K => f104 b ⟨t, d⟩ K
    simp only [eBase, rItem] at h104
    cases hfit : fits b.types ⟨t, d⟩ with
    | false =>
      obtain ⟨e1, e2⟩ := bad (by simp [argOk, hfit])
      rw [e1, e2]
      rw [hfit] at h104
      simp only [c83, eBase, h61, hlen, c1, c2, h104, evX, Int.reduceEq, Int.reduceLT, Int.reduceLE, Nat.reduceMul, Nat.reduceMod, evW, fn_eq, evR, Nat.reduceAdd, Nat.reduceLT, Nat.reduceLeDiff, reduceIte, Nat.reduceEqDiff, reduceCtorEq, argEnv, eq_self, if_true, if_false]
    | true =>
      rw [hfit] at h104
      obtain ⟨ti, ty, htt, htl, hty, hmin, hmax⟩ := fits_some hfit
      simp only at htt hmin hmax
      subst htt
      have hat := aTy hty
      have htok : tyOk ty = true := by
        have := tell_true.1 hr.tys ti ty hty
        simp only [tyAt, Bool.and_eq_true] at this; exact this.1.1.1
      have hpar : tpar b.types (ti : Int) = ty.parent := tpar_at hty

      have h105 := fun K => f105 ty htok d (by omega) K
      have h106 := fun (hp : -1 ≤ p) (hpl : p < (f.length : Int)) K => f106 b f hr p hp hpl K
      have hks := (sIs [] (nI (chl b f p))).len
      rw [List.length_map, show (nI (chl b f p)).length = (chl b f p).length by simp [nI]] at hks
      have hlp := fun K n m hn hm => l83 b f hr p ti ty hty htok (keyOf ty d) K n m hn hm
      have hnn : placeN b f p (ti : Int) d = ((chl b f p).foldl (atP b f (ti : Int) (keyOf ty d)) ((p + 1).toNat, false)).1 := by
        unfold placeN
        rw [tyOf_at hty]
        exact (plAt_same b f (ti : Int) (keyOf ty d) (chl b f p) (p + 1).toNat (chl_mono hr p (ti : Int) (keyOf ty d))).symm
      have hwp : IntKind.i64.wrap (p + 1) = (((p + 1).toNat : Nat) : Int) := by rw [wrap_i64 (by omega) (by omega)]; omega
      have good : argOk b f p (ti : Int) d = true → placeE b f p (ti : Int) d = if twice b f p (ti : Int) (keyOf ty d) = true then 90 else 0 := fun h => by
        unfold placeE; rw [if_pos he, if_pos h, tyOf_at hty]
      have hK := hlp (H ++ [bBase b, bTy ty]) H.length (H.length + 1) (fun Z => by simp) (fun Z => by simp)
      clear hlp
      simp only [eBase, rTy] at h105 h106
      by_cases c3 : p < 0
      · have hp1 : p = -1 := by omega
        have c3n : ¬ (0 : Int) ≤ p := by omega
        by_cases c4 : ti = 0
        · have hg : argOk b f p (ti : Int) d = true := by
            simp only [argOk, Bool.and_eq_true, decide_eq_true_eq]
            exact ⟨⟨⟨by omega, by omega⟩, hfit⟩, by rw [if_pos c3]; simp [c4]⟩
          have c4' : ((ti : Int) = 0) = True := eq_true (by omega)
          have h106' := h106 (by omega) (by omega)
          have e1 := good hg
          clear good bad hp1 c4
          generalize nI (chl b f p) = ks at *
          generalize (chl b f p).length = cl at *
          simp only [bBase, bTy, rTy] at hK
          simp only [c83, eBase, h61, hlen, c1, c2, h104, c3, c3n, c4', hat, rTy, h105, h106', hks, hwp, evX, Int.reduceEq, Int.reduceLT, Int.reduceLE, Nat.reduceMul, Nat.reduceMod, evW, fn_eq, evR, Nat.reduceAdd, Nat.reduceLT, Nat.reduceLeDiff, reduceIte, Nat.reduceEqDiff, reduceCtorEq, argEnv, eq_self, if_true, if_false]
          generalize hz : itLim _ _ = z
          rcases hK _ (by rfl) (by rfl) z hz with ⟨ht, T, G, rfl, hT⟩ | ⟨ht, T, G, rfl, hT1, hT2⟩
          · rw [ht] at e1
            have e2 : placeR b f p (ti : Int) d = (placeN b f p (ti : Int) d : Int) := by unfold placeR; rw [e1]; rfl
            rw [e1, e2, hnn]
            simp only [hT, evX, Int.reduceEq, Int.reduceLT, Int.reduceLE, Nat.reduceMul, Nat.reduceMod, evW, fn_eq, evR, Nat.reduceAdd, Nat.reduceLT, Nat.reduceLeDiff, reduceIte, Nat.reduceEqDiff, reduceCtorEq, argEnv, eq_self, if_true, if_false]
          · rw [ht] at e1
            have e2 : placeR b f p (ti : Int) d = 0 := by unfold placeR; rw [e1]; rfl
            rw [e1, e2]
            simp only [hT1, hT2, evX, Int.reduceEq, Int.reduceLT, Int.reduceLE, Nat.reduceMul, Nat.reduceMod, evW, fn_eq, evR, Nat.reduceAdd, Nat.reduceLT, Nat.reduceLeDiff, reduceIte, Nat.reduceEqDiff, reduceCtorEq, argEnv, eq_self, if_true, if_false]
        · obtain ⟨e1, e2⟩ := bad (by simp [argOk, c3]; omega)
          have c4' : ((ti : Int) = 0) = False := eq_false (by omega)
          rw [e1, e2]
          simp only [c83, eBase, h61, hlen, c1, c2, h104, c3, c4', evX, Int.reduceEq, Int.reduceLT, Int.reduceLE, Nat.reduceMul, Nat.reduceMod, evW, fn_eq, evR, Nat.reduceAdd, Nat.reduceLT, Nat.reduceLeDiff, reduceIte, Nat.reduceEqDiff, reduceCtorEq, argEnv, eq_self, if_true, if_false]
      · obtain ⟨q, rfl⟩ : ∃ q : Nat, p = (q : Int) := ⟨p.toNat, by omega⟩
        obtain ⟨y, hy⟩ : ∃ y, f[q]? = some y := ⟨_, List.getElem?_eq_getElem (by omega)⟩
        have haq := aItem hy
        have c3' : (0 : Int) ≤ (q : Int) := by omega
        by_cases c4 : ty.parent = y.type
        · have hg : argOk b f (q : Int) (ti : Int) d = true := by
            simp only [argOk, Bool.and_eq_true, decide_eq_true_eq]
            exact ⟨⟨⟨by omega, by omega⟩, hfit⟩, by rw [if_neg c3, hpar, typ_at hy]; simp [c4]⟩
          have c4' : (ty.parent = y.type) = True := eq_true c4
          have h106' := h106 (by omega) (by omega)
          have e1 := good hg
          clear good bad c4
          generalize nI (chl b f (q : Int)) = ks at *
          generalize (chl b f (q : Int)).length = cl at *
          simp only [bBase, bTy, rTy] at hK
          simp only [c83, eBase, h61, hlen, c1, c2, h104, c3, c3', c4', hat, haq, rItem, rTy, h105, h106', hks, hwp, evX, Int.reduceEq, Int.reduceLT, Int.reduceLE, Nat.reduceMul, Nat.reduceMod, evW, fn_eq, evR, Nat.reduceAdd, Nat.reduceLT, Nat.reduceLeDiff, reduceIte, Nat.reduceEqDiff, reduceCtorEq, argEnv, eq_self, if_true, if_false]
          generalize hz : itLim _ _ = z
          rcases hK _ (by rfl) (by rfl) z hz with ⟨ht, T, G, rfl, hT⟩ | ⟨ht, T, G, rfl, hT1, hT2⟩
          · rw [ht] at e1
            have e2 : placeR b f (q : Int) (ti : Int) d = (placeN b f (q : Int) (ti : Int) d : Int) := by unfold placeR; rw [e1]; rfl
            rw [e1, e2, hnn]
            simp only [hT, evX, Int.reduceEq, Int.reduceLT, Int.reduceLE, Nat.reduceMul, Nat.reduceMod, evW, fn_eq, evR, Nat.reduceAdd, Nat.reduceLT, Nat.reduceLeDiff, reduceIte, Nat.reduceEqDiff, reduceCtorEq, argEnv, eq_self, if_true, if_false]
          · rw [ht] at e1
            have e2 : placeR b f (q : Int) (ti : Int) d = 0 := by unfold placeR; rw [e1]; rfl
            rw [e1, e2]
            simp only [hT1, hT2, evX, Int.reduceEq, Int.reduceLT, Int.reduceLE, Nat.reduceMul, Nat.reduceMod, evW, fn_eq, evR, Nat.reduceAdd, Nat.reduceLT, Nat.reduceLeDiff, reduceIte, Nat.reduceEqDiff, reduceCtorEq, argEnv, eq_self, if_true, if_false]
        · obtain ⟨e1, e2⟩ := bad (by simp only [argOk]; rw [if_neg c3, hpar, typ_at hy, decide_eq_false c4, Bool.and_false])
          have c4' : (ty.parent = y.type) = False := eq_false c4
          clear c4
          rw [e1, e2]
          simp only [c83, eBase, h61, hlen, c1, c2, h104, c3, c3', c4', hat, haq, rItem, rTy, evX, Int.reduceEq, Int.reduceLT, Int.reduceLE, Nat.reduceMul, Nat.reduceMod, evW, fn_eq, evR, Nat.reduceAdd, Nat.reduceLT, Nat.reduceLeDiff, reduceIte, Nat.reduceEqDiff, reduceCtorEq, argEnv, eq_self, if_true, if_false]
  · have e1 : placeE b f p t d = errF b f [] := if_neg he
    have e2 : placeR b f p t d = 0 := by unfold placeR; rw [e1, if_neg he]
    rw [e1, e2]
    simp only [c83, eBase, h61, he, evX, Int.reduceEq, Int.reduceLT, Int.reduceLE, Nat.reduceMul, Nat.reduceMod, evW, fn_eq, evR, Nat.reduceAdd, Nat.reduceLT, Nat.reduceLeDiff, reduceIte, Nat.reduceEqDiff, reduceCtorEq, argEnv, eq_self, if_true, if_false]
end Go.Proofs.Ytbchmbddcdionaa.Code

/- plain: where a new item stands, of the document. -/
set_option linter.unusedSimpArgs false
set_option linter.unusedVariables false
namespace Go.Proofs.Ytbchmbddcdionaa.Code
open Go.Proofs.Ytbchmbddcdionaa.Ev

end Go.Proofs.Ytbchmbddcdionaa.Code

/- plain: where a new item stands, of the document: placed. -/
set_option linter.unusedSimpArgs false
set_option linter.unusedVariables false
namespace Go.Proofs.Ytbchmbddcdionaa.Code
open Go.Proofs.Ytbchmbddcdionaa.Ev

end Go.Proofs.Ytbchmbddcdionaa.Code

/- plain: the forest with a new item, of the program and of the document. -/
set_option linter.unusedSimpArgs false
set_option linter.unusedVariables false
namespace Go.Proofs.Ytbchmbddcdionaa.Code
open Go.Proofs.Ytbchmbddcdionaa.Ev

theorem fn_uIns {call it} {n : Nat} {res : List CRes} {p : List AV → Heap → Option (List AV × Heap)} (args : List AV) (H : Heap) : evFn call it ⟨n, res, .user p, false, false⟩ args H = bodyK res ((p args H).map fun r => (CX.ret, (argEnv 0 r.1, r.2))) := by
  rw [fn_eq]
  simp only [evCode, user_args]
theorem f84r (H : Heap) (b v n bv : Nat) (els : List (List AV)) (row : List AV) (hb : H[b]? = some ⟨v, true, 44, 2, els⟩) (hv : H[bv]? = some ⟨0, true, 44, 2, [row]⟩) (hne : b ≠ bv) (hn : n = els.length) (hr : n < 100000) (i : Nat) (hi : i ≤ n) :
    cal (evC cprog) false 84 [.ref b v 2 0 n, .int .i64 (i : Int), .ref bv 0 2 0 1] H = some (.ref b (v + 1) 2 0 (n + 1), H.set b ⟨v + 1, true, 44, 2, els.take i ++ row :: els.drop i⟩) := by
  rw [cal_of at84, show c84 = ⟨0, [.t 0], .user (pIns 2 44 24), false, false⟩ from rfl, fn_uIns]
  have hc1 : curBlk H b v 2 = some ⟨v, true, 44, 2, els⟩ := by simp [curBlk, hb]
  have hc2 : curBlk H bv 0 2 = some ⟨0, true, 44, 2, [row]⟩ := by simp [curBlk, hv]
  have h : pIns 2 44 24 [.ref b v 2 0 n, .int .i64 (i : Int), .ref bv 0 2 0 1] H = some ([.ref b (v + 1) 2 0 (n + 1)], H.set b ⟨v + 1, true, 44, 2, els.take i ++ row :: els.drop i⟩) := by
    have ht : els.take n = els := List.take_of_length_le (by omega)
    simp only [pIns, hc1, hc2, List.getElem?_cons_zero]
    rw [if_pos ⟨trivial, trivial, trivial, trivial, hne, by omega, by omega, by omega, by unfold reach; omega, by unfold reach; omega⟩, Int.toNat_natCast, ht]
  rw [h]
  simp only [evX, Int.reduceEq, Int.reduceLT, Int.reduceLE, Nat.reduceMul, Nat.reduceMod, evW, fn_eq, evR, Nat.reduceAdd, Nat.reduceLT, Nat.reduceLeDiff, reduceIte, Nat.reduceEqDiff, reduceCtorEq, argEnv, eq_self, if_true, if_false]
  rw [gc_no _ _ _ rfl]
theorem f84n (H : Heap) (bv : Nat) (row : List AV) (hv : H[bv]? = some ⟨0, true, 44, 2, [row]⟩) :
    cal (evC cprog) false 84 [.nil0, .int .i64 0, .ref bv 0 2 0 1] H = some (.ref H.length 0 2 0 1, H ++ [⟨0, true, 44, 2, [row]⟩]) := by
  rw [cal_of at84, show c84 = ⟨0, [.t 0], .user (pIns 2 44 24), false, false⟩ from rfl, fn_uIns]
  have hc2 : curBlk H bv 0 2 = some ⟨0, true, 44, 2, [row]⟩ := by simp [curBlk, hv]
  have h : pIns 2 44 24 [.nil0, .int .i64 0, .ref bv 0 2 0 1] H = some ([.ref H.length 0 2 0 1], H ++ [⟨0, true, 44, 2, [row]⟩]) := by simp [pIns, hc2]
  rw [h]
  simp only [evX, Int.reduceEq, Int.reduceLT, Int.reduceLE, Nat.reduceMul, Nat.reduceMod, evW, fn_eq, evR, Nat.reduceAdd, Nat.reduceLT, Nat.reduceLeDiff, reduceIte, Nat.reduceEqDiff, reduceCtorEq, argEnv, eq_self, if_true, if_false]
noncomputable def insE (b : Base) (f : List Item) (p t : Int) (d : ByteArray) : Int := if placeE b f p t d = 0 then (if 200 ≤ f.length then 4 else 0) else placeE b f p t d
noncomputable def insL (b : Base) (f : List Item) (p t : Int) (d : ByteArray) : List Item := if insE b f p t d = 0 then f.take (placeN b f p t d) ++ ⟨t, d⟩ :: f.drop (placeN b f p t d) else []
noncomputable def insN (b : Base) (f : List Item) (p t : Int) (d : ByteArray) : Int := if insE b f p t d = 0 then (placeN b f p t d : Int) else 0
theorem foldD_le {b : Base} {f : List Item} {t : Int} {s : ByteArray} : ∀ (l : List Nat) (a : Nat), a ≤ f.length → (∀ k ∈ l, k < f.length) → l.foldl (atD b f t s) a ≤ f.length
  | [], a, h, _ => h
  | k :: l, a, h, hl => by
    rw [List.foldl_cons]
    refine foldD_le l _ ?_ fun j hj => hl j (List.mem_cons_of_mem _ hj)
    unfold atD
    split
    · exact (endOf_is b.types f (hl k (List.mem_cons_self ..))).le
    · exact h
theorem place_ok {b : Base} (hb : b.Ok) {f : List Item} {p t : Int} {d : ByteArray} (h : placeE b f p t d = 0) : Right b f ∧ argOk b f p t d = true ∧ twice b f p t (keyOf (tyOf b.types t) d) = false ∧ placeN b f p t d ≤ f.length := by
  have h0 := h
  unfold placeE at h
  split at h
  case isFalse he => exact absurd h he
  rename_i he
  split at h
  case isFalse => cases h
  rename_i hg
  split at h
  · cases h
  rename_i htw
  have hr := (errF_zero hb he).1
  have ha := argOk_at hg
  refine ⟨hr, hg, by simpa using htw, ?_⟩
  unfold placeN
  exact foldD_le _ _ (by omega) fun k hk => (mem_chTo.1 hk).1
def eLIE (l : List Item) (n e : Int) : AV := .tup [eItems l, .int .i64 n, .int .i64 e]
theorem f58 (b : Base) (hb : b.Ok) (f : List Item) (hfl : f.length < 9223372036854775807) (p t : Int) (d : ByteArray) (H : Heap) : cal (evC cprog) true 58 [eBase b, eItems f, .int .i64 p, .int .i64 t, .str d] H = some (eLIE (insL b f p t d) (insN b f p t d) (insE b f p t d), H) := by
  rw [cal_of at58]
  have h50 := f83 b hb f hfl p t d
  simp only [eBase] at h50
  have hlen := (sItems [] f).len
  simp only [List.length_map] at hlen
  by_cases he : placeE b f p t d = 0
  · obtain ⟨hr, _, _, hn⟩ := place_ok hb he
    have hl := hr.len
    have hR : placeR b f p t d = (placeN b f p t d : Int) := if_pos he
    rw [hR, he] at h50
    by_cases h200 : 200 ≤ f.length
    · have h200' : (200 : Int) ≤ (f.length : Int) := by omega
      have e1 : insE b f p t d = 4 := by unfold insE; rw [if_pos he, if_pos h200]
      have e2 : insL b f p t d = [] := by unfold insL; rw [e1]; rfl
      have e3 : insN b f p t d = 0 := by unfold insN; rw [e1]; rfl
      rw [e1, e2, e3]
      simp only [c58, eBase, h50, hlen, h200', evX, Int.reduceEq, Int.reduceLT, Int.reduceLE, Nat.reduceMul, Nat.reduceMod, evW, fn_eq, evR, Nat.reduceAdd, Nat.reduceLT, Nat.reduceLeDiff, reduceIte, Nat.reduceEqDiff, reduceCtorEq, argEnv, eq_self, if_true, if_false]
      exact frz_three (fz_nils _) rfl (by simp) (by simp) _ _ _ _
    · have h200' : ¬ (200 : Int) ≤ (f.length : Int) := by omega
      have e1 : insE b f p t d = 0 := by unfold insE; rw [if_pos he, if_neg h200]
      have e2 : insL b f p t d = f.take (placeN b f p t d) ++ ⟨t, d⟩ :: f.drop (placeN b f p t d) := if_pos e1
      have e3 : insN b f p t d = (placeN b f p t d : Int) := if_pos e1
      rw [e1, e2, e3]
      clear e1 e2 e3 hR
      generalize placeN b f p t d = n at *
      cases hf : f with
      | nil =>
        subst hf
        have hn0 : n = 0 := by simpa using hn
        subst hn0
        have h39 := fun K => clone_nil (ty := 44) (sz := 2) (bytes := 24) at37 K
        have h52 := f84n (H ++ [bBase b, ⟨0, true, 44, 2, [[.int .i64 t, .str d]]⟩]) (H.length + 1) [.int .i64 t, .str d] (by simp)
        simp only [bBase, Int.natCast_zero, eItems, List.map_nil] at h52 h50 hlen h200'
        simp only [c58, eBase, eItems, List.map_nil, h50, hlen, h200', h39, h52, Int.natCast_zero, evX, Int.reduceEq, Int.reduceLT, Int.reduceLE, Nat.reduceMul, Nat.reduceMod, evW, fn_eq, evR, Nat.reduceAdd, Nat.reduceLT, Nat.reduceLeDiff, reduceIte, Nat.reduceEqDiff, reduceCtorEq, argEnv, eq_self, if_true, if_false]
        obtain ⟨ids, g1, g2⟩ := fz_blk (H := H ++ [bBase b, ⟨0, true, 44, 2, [[.int .i64 t, .str d]]⟩, ⟨0, true, 44, 2, [[.int .i64 t, .str d]]⟩]) (b := H.length + 2) (v := 0) (sz := 2) (len := 1) (k := ⟨0, true, 44, 2, [[.int .i64 t, .str d]]⟩) (by simp [curBlk]) (rows := ([⟨t, d⟩] : List Item).map rItem) rfl (plain_items _) 6
        exact frz_three (ids := ids) g1 rfl (by simp) (fun x hx => by have := g2 x hx; omega) _ _ _ _
      | cons y ys =>
        rw [← hf]
        have hf0 : 0 < f.length := by rw [hf]; simp
        clear hf
        have h39 := f37 hf0 (by omega)
        have h52 := f84r (H ++ [bBase b, ⟨0, true, 44, 2, f.map rItem⟩, ⟨0, true, 44, 2, [[.int .i64 t, .str d]]⟩]) (H.length + 1) 0 f.length (H.length + 2) (f.map rItem) [.int .i64 t, .str d] (by simp) (by simp) (by omega) (by simp) (by omega) n hn
        obtain ⟨Z, hZ⟩ : ∃ Z, Z = (H ++ [bBase b, ⟨0, true, 44, 2, f.map rItem⟩, ⟨0, true, 44, 2, [[.int .i64 t, .str d]]⟩]).set (H.length + 1) ⟨0 + 1, true, 44, 2, (f.map rItem).take n ++ [.int .i64 t, .str d] :: (f.map rItem).drop n⟩ := ⟨_, rfl⟩
        rw [← hZ] at h52
        have zb : Z[H.length + 1]? = some ⟨1, true, 44, 2, (f.map rItem).take n ++ [.int .i64 t, .str d] :: (f.map rItem).drop n⟩ := by rw [hZ, List.getElem?_set_self (by simp)]
        have zt : Z.take H.length = H := by rw [hZ, List.take_set_of_le (by omega)]; simp
        clear hZ
        simp only [bBase] at h52
        simp only [c58, eBase, h50, hlen, h200', h39, h52, evX, Int.reduceEq, Int.reduceLT, Int.reduceLE, Nat.reduceMul, Nat.reduceMod, evW, fn_eq, evR, Nat.reduceAdd, Nat.reduceLT, Nat.reduceLeDiff, reduceIte, Nat.reduceEqDiff, reduceCtorEq, argEnv, eq_self, if_true, if_false]
        have hrows : (f.map rItem).take n ++ [.int .i64 t, .str d] :: (f.map rItem).drop n = (f.take n ++ ⟨t, d⟩ :: f.drop n).map rItem := by simp [rItem]
        obtain ⟨ids, g1, g2⟩ := fz_blk (H := Z) (b := H.length + 1) (v := 1) (sz := 2) (len := f.length + 1) (k := ⟨1, true, 44, 2, (f.map rItem).take n ++ [.int .i64 t, .str d] :: (f.map rItem).drop n⟩) (by simp [curBlk, zb]) (rows := (f.take n ++ ⟨t, d⟩ :: f.drop n).map rItem) (by
          rw [hrows, List.take_of_length_le (by simp; omega)]) (plain_items _) 6
        exact frz_three (ids := ids) g1 rfl zt (fun x hx => by have := g2 x hx; omega) _ _ _ _
  · have e1 : insE b f p t d = placeE b f p t d := if_neg he
    have e2 : insL b f p t d = [] := by unfold insL; rw [e1, if_neg he]
    have e3 : insN b f p t d = 0 := by unfold insN; rw [e1, if_neg he]
    rw [e1, e2, e3]
    simp only [c58, eBase, h50, he, evX, Int.reduceEq, Int.reduceLT, Int.reduceLE, Nat.reduceMul, Nat.reduceMod, evW, fn_eq, evR, Nat.reduceAdd, Nat.reduceLT, Nat.reduceLeDiff, reduceIte, Nat.reduceEqDiff, reduceCtorEq, argEnv, eq_self, if_true, if_false]
    exact frz_three (fz_nils _) rfl (by simp) (by simp) _ _ _ _
end Go.Proofs.Ytbchmbddcdionaa.Code

/- logic: what a rule forbids; Insert and Replace of the program (numbers of the logic seat). -/
set_option linter.unusedSimpArgs false
set_option linter.unusedVariables false
namespace Go.Proofs.Ytbchmbddcdionaa.Code
open Go.Proofs.Ytbchmbddcdionaa.Ev

def forb (x : Pr) (t : Int) (d : ByteArray) : Bool := decide (t = x.l.child) && !decide (x.l.rule = ⟨#[76]⟩) && decide (upI x d < 0)
theorem f59 (x : Pr) (h : x.Ok) (t : Int) (d : ByteArray) (hd : fits x.a.types ⟨t, d⟩ = true) (n : Nat) (H : Heap) (hs : Sits H n (bPair x)) : cal (evC cprog) false 59 [.ptr n 0 13 0 0, .int .i64 t, .str d] H = some (.bool (forb x t d), H) := by
  rw [cal_of at59]
  have g0 := hs.at
  have h34 := f77 x h (kOf x d) n H hs
  by_cases ht : t = x.l.child
  · have h35 := f65 x h d (by rw [← ht]; exact hd) n H hs
    simp only [bPair, Sits] at hs g0
    by_cases hr : x.l.rule = ⟨#[76]⟩
    · simp only [c59, nck_ptr, hs, g0, ht, hr, evX, Int.reduceEq, Int.reduceLT, Int.reduceLE, Nat.reduceMul, Nat.reduceMod, evW, fn_eq, evR, Nat.reduceAdd, Nat.reduceLT, Nat.reduceLeDiff, reduceIte, Nat.reduceEqDiff, reduceCtorEq, argEnv, eq_self, if_true, if_false]
      all_goals simp [forb, hr]
    · simp only [c59, nck_ptr, hs, g0, ht, hr, h34, h35, evX, Int.reduceEq, Int.reduceLT, Int.reduceLE, Nat.reduceMul, Nat.reduceMod, evW, fn_eq, evR, Nat.reduceAdd, Nat.reduceLT, Nat.reduceLeDiff, reduceIte, Nat.reduceEqDiff, reduceCtorEq, argEnv, eq_self, if_true, if_false]
      all_goals (simp [forb, hr, upI]; try exact decide_eq_decide.2 Iff.rfl)
  · simp only [bPair, Sits] at hs g0
    simp only [c59, nck_ptr, hs, g0, ht, evX, Int.reduceEq, Int.reduceLT, Int.reduceLE, Nat.reduceMul, Nat.reduceMod, evW, fn_eq, evR, Nat.reduceAdd, Nat.reduceLT, Nat.reduceLeDiff, reduceIte, Nat.reduceEqDiff, reduceCtorEq, argEnv, eq_self, if_true, if_false]
    all_goals simp [forb, ht]
noncomputable def lgOk (x : Pr) (p t : Int) (d : ByteArray) : Bool := decide (askE x = 0) && !(!decide (insE x.a x.f p t d = 2) && forb x t d)
noncomputable def lgL (x : Pr) (p t : Int) (d : ByteArray) : List Item := if lgOk x p t d = true then insL x.a x.f p t d else []
noncomputable def lgN (x : Pr) (p t : Int) (d : ByteArray) : Int := if lgOk x p t d = true then insN x.a x.f p t d else 0
noncomputable def lgE (x : Pr) (p t : Int) (d : ByteArray) : Int := if askE x = 0 then (if lgOk x p t d = true then insE x.a x.f p t d else 181) else askE x
theorem ins_fits {x : Pr} (h : x.Ok) {p t : Int} {d : ByteArray} (hn : insE x.a x.f p t d ≠ 2) : fits x.a.types ⟨t, d⟩ = true := by
  have he : errF x.a x.f [] = 0 := by rw [errF_nil h.va, if_pos h.f]
  cases ha : argOk x.a x.f p t d with
  | true => exact (argOk_at ha).2.2.1
  | false =>
    have : placeE x.a x.f p t d = 2 := by unfold placeE; rw [if_pos he, if_neg (by rw [ha]; simp)]
    unfold insE at hn
    rw [this] at hn
    exact absurd rfl hn
theorem fz_lst (H : Heap) (l : List (List AV)) : fz H fzDepth (.lst l) = some (.lst l, []) := rfl
theorem f32 (x : Pr) (h : x.Raw) (p t : Int) (d : ByteArray) (H : Heap) : cal (evC cprog) true 32 [eBase x.a, eBase x.b, eLink x.l, eItems x.f, eItems x.g, .int .i64 p, .int .i64 t, .str d] H = some (eLIE (lgL x p t d) (lgN x p t d) (lgE x p t d), H) := by
  rw [cal_of at32]
  by_cases h0 : askE x = 0
  · obtain ⟨hok, hag⟩ := ask_ok h h0
    have h16 := f35_ok x hok hag
    have h17 := f58 x.a h.a x.f h.f p t d
    by_cases he : insE x.a x.f p t d = 2
    · have e0 : lgOk x p t d = true := by simp [lgOk, h0, he]
      rw [show lgL x p t d = insL x.a x.f p t d from if_pos e0, show lgN x p t d = insN x.a x.f p t d from if_pos e0, show lgE x p t d = insE x.a x.f p t d by unfold lgE; rw [if_pos h0, if_pos e0]]
      rw [he] at h17 ⊢
      simp only [eBase, eLink, bBase, bLink, bPair, eLIE] at h16 h17
      simp only [c32, eBase, eLink, h16, h17, eLIE, evX, Int.reduceEq, Int.reduceLT, Int.reduceLE, Nat.reduceMul, Nat.reduceMod, evW, fn_eq, evR, Nat.reduceAdd, Nat.reduceLT, Nat.reduceLeDiff, reduceIte, Nat.reduceEqDiff, reduceCtorEq, argEnv, eq_self, if_true, if_false]
      exact frz_three (fz_lst _ _) rfl (by simp) (by simp) _ _ _ _
    · have h18 := f59 x hok t d (ins_fits hok he) (H.length + 9) (H ++ [bBase x.a, bBase x.b, bLink x.l, bBase x.a, bBase x.b, bLink x.l, bBase x.a, bBase x.b, bLink x.l, bPair x]) (.mk (by simp))
      cases hf : forb x t d with
      | false =>
        have e0 : lgOk x p t d = true := by simp [lgOk, h0, hf]
        rw [show lgL x p t d = insL x.a x.f p t d from if_pos e0, show lgN x p t d = insN x.a x.f p t d from if_pos e0, show lgE x p t d = insE x.a x.f p t d by unfold lgE; rw [if_pos h0, if_pos e0]]
        rw [hf] at h18
        simp only [eBase, eLink, bBase, bLink, bPair, eLIE] at h16 h17 h18
        simp only [c32, eBase, eLink, h16, h17, h18, he, eLIE, evX, Int.reduceEq, Int.reduceLT, Int.reduceLE, Nat.reduceMul, Nat.reduceMod, evW, fn_eq, evR, Nat.reduceAdd, Nat.reduceLT, Nat.reduceLeDiff, reduceIte, Nat.reduceEqDiff, reduceCtorEq, argEnv, eq_self, if_true, if_false]
        exact frz_three (fz_lst _ _) rfl (by simp) (by simp) _ _ _ _
      | true =>
        have e0 : ¬ lgOk x p t d = true := by simp [lgOk, hf, he]
        rw [show lgL x p t d = [] from if_neg e0, show lgN x p t d = 0 from if_neg e0, show lgE x p t d = 181 by unfold lgE; rw [if_pos h0, if_neg e0]]
        rw [hf] at h18
        simp only [eBase, eLink, bBase, bLink, bPair, eLIE] at h16 h17 h18
        simp only [c32, eBase, eLink, h16, h17, h18, he, eLIE, evX, Int.reduceEq, Int.reduceLT, Int.reduceLE, Nat.reduceMul, Nat.reduceMod, evW, fn_eq, evR, Nat.reduceAdd, Nat.reduceLT, Nat.reduceLeDiff, reduceIte, Nat.reduceEqDiff, reduceCtorEq, argEnv, eq_self, if_true, if_false]
        exact frz_three (fz_nils _) rfl (by simp) (by simp) _ _ _ _
  · have h16 := f35_err x h h0
    simp only [eBase, eLink] at h16
    have e0 : ¬ lgOk x p t d = true := by simp [lgOk, h0]
    rw [show lgL x p t d = [] from if_neg e0, show lgN x p t d = 0 from if_neg e0, show lgE x p t d = askE x by unfold lgE; rw [if_neg h0]]
    simp only [c32, eBase, eLink, h16, h0, eLIE, evX, Int.reduceEq, Int.reduceLT, Int.reduceLE, Nat.reduceMul, Nat.reduceMod, evW, fn_eq, evR, Nat.reduceAdd, Nat.reduceLT, Nat.reduceLeDiff, reduceIte, Nat.reduceEqDiff, reduceCtorEq, argEnv, eq_self, if_true, if_false]
    exact frz_three (fz_nils _) rfl (by simp) (by simp) _ _ _ _
end Go.Proofs.Ytbchmbddcdionaa.Code

/- plain: a forest with a new item is a forest: parents and paths (mathematics). -/
set_option linter.unusedSimpArgs false
set_option linter.unusedVariables false
namespace Go.Proofs.Ytbchmbddcdionaa.Code
open Go.Proofs.Ytbchmbddcdionaa.Ev

theorem lastTo_past {f : List Item} {p : Int} : ∀ (n : Nat), ∀ j : Nat, lastTo f p n < (j : Int) → j < n → typ f (j : Int) ≠ p
  | 0, j, _, h => by omega
  | n + 1, j, h, hj => by
    unfold lastTo at h
    split at h
    · omega
    · rename_i h1
      by_cases e : j = n
      · subst e; exact h1
      · exact lastTo_past n j h (by omega)
/-- what is on one way has types that rise -/
theorem way_typ {b : Base} {f : List Item} (h : Right b f) {j : Nat} (hj : j < f.length) {a c : Nat} (ha : (a : Int) ∈ pth b.types f j) (hc : (c : Int) ∈ pth b.types f j) (hac : a < c) : typ f (a : Int) < typ f (c : Int) := by
  have hcj := pth_bound hc
  have := way_between (Nat.le_refl _) h.ok j hj (a : Int) ha c (by omega) (by omega)
  exact typ_rise h.tys (Nat.le_refl _) h.ok c c (Nat.le_refl _) (by omega) (a : Int) this (by omega)
theorem way_inj {b : Base} {f : List Item} (h : Right b f) {j : Nat} (hj : j < f.length) {a c : Nat} (ha : (a : Int) ∈ pth b.types f j) (hc : (c : Int) ∈ pth b.types f j) (ht : typ f (a : Int) = typ f (c : Int)) : a = c := by
  rcases Nat.lt_trichotomy a c with h1 | h1 | h1
  · have := way_typ h hj ha hc h1; omega
  · exact h1
  · have := way_typ h hj hc ha h1; omega
/-- two on one way with one parent are one -/
theorem way_par {b : Base} {f : List Item} (h : Right b f) {j : Nat} (hj : j < f.length) {a c : Nat} (ha : (a : Int) ∈ pth b.types f j) (hc : (c : Int) ∈ pth b.types f j) (hp : par b.types f a = par b.types f c) : a = c := by
  have key : ∀ {a c : Nat}, (a : Int) ∈ pth b.types f j → (c : Int) ∈ pth b.types f j → par b.types f a = par b.types f c → ¬ a < c := fun {a c} ha hc hp hlt => by
    have hcj := pth_bound hc
    have hm := way_between (Nat.le_refl _) h.ok j hj (a : Int) ha c (by omega) (by omega)
    obtain ⟨h0, h1⟩ := mem_par (b := b) (f := f) (j := c) (by omega) hm (by omega)
    have := pth_bound h1
    have := par_lt b.types f a
    omega
  have h1 := key ha hc hp
  have h2 := key hc ha hp.symm
  omega
/-- where a new item goes, and what is known of the place -/
structure Spot (b : Base) (f : List Item) (p t : Int) (d : ByteArray) (n : Nat) : Prop where
  R : Right b f
  lo : -1 ≤ p
  hi : p < (f.length : Int)
  le : n ≤ f.length
  at' : (n : Int) = p + 1 ∨ ∃ c : Nat, c < f.length ∧ par b.types f c = p ∧ n = endOf b.types f c ∧ front b f t (keyOf (tyOf b.types t) d) c = true
  next : n < f.length → par b.types f n = p → front b f t (keyOf (tyOf b.types t) d) n = false
  fit : fits b.types ⟨t, d⟩ = true
  typ : (p < 0 ∧ t = 0) ∨ (0 ≤ p ∧ tpar b.types t = Code.typ f p)
  one : (tyOf b.types t).unique = true → ∀ k : Nat, k < f.length → par b.types f k = p → Code.typ f (k : Int) = t → kKey b f t k ≠ keyOf (tyOf b.types t) d
section
variable {b : Base} {f : List Item} {p t : Int} {d : ByteArray} {n : Nat} (S : Spot b f p t d n)
include S
theorem Spot.gt : p < (n : Int) := by
  rcases S.at' with h | ⟨c, h1, h2, h3, _⟩
  · omega
  · have := par_lt b.types f c
    have := (endOf_is b.types f h1).lt
    omega
/-- the parent is on the way of the place -/
theorem Spot.way {q : Nat} (hq : p = (q : Int)) : (q : Int) ∈ pth b.types f (n - 1) := by
  have hg := S.gt
  rcases S.at' with h | ⟨c, h1, h2, h3, _⟩
  · rw [show n - 1 = q by omega]; exact pth_self ..
  · have he := endOf_is b.types f h1
    have hlt := he.lt
    have hle := he.le
    by_cases e : n - 1 = c
    · rw [e]; exact par_mem h1 (by rw [h2, hq])
    · exact anc_trans _ (he.all (n - 1) (by omega) (by omega)) (par_mem h1 (by rw [h2, hq]))
/-- nothing that has the new item's type is above what comes behind it, within what stands ahead -/
theorem Spot.free {q k : Nat} (hq : q < n) (hk : n ≤ k) (hkl : k < f.length) (hm : (q : Int) ∈ pth b.types f k) (ht : Code.typ f (q : Int) = t) : False := by
  have R := S.R
  have hg := S.gt
  have hnl : n < f.length := by omega
  have m1 := way_between (Nat.le_refl _) R.ok k hkl (q : Int) hm (n - 1) (by omega) (by omega)
  have mn := way_between (Nat.le_refl _) R.ok k hkl (q : Int) hm n (by omega) hk
  have hql : q < f.length := by omega
  have hqp : par b.types f q = p := by
    obtain ⟨y, ky, ty, hy, hky, _, hty, _⟩ := R.item hql
    have hyt : (ky : Int) = t := by rw [← hky, ← ht, typ_at hy]
    have htp : tpar b.types t = ty.parent := by rw [← hyt, tpar_at hty]
    rcases R.par hy hky hty with ⟨a1, a2, a3⟩ | ⟨r, a1, a2, _, a4, _, a6⟩
    · rcases S.typ with ⟨b1, b2⟩ | ⟨b1, b2⟩
      · have := S.lo; omega
      · exfalso
        obtain ⟨u, hu⟩ : ∃ u : Nat, p = (u : Int) := ⟨p.toNat, by omega⟩
        have hul : u < f.length := by have := S.hi; omega
        obtain ⟨z, kz, _, hz, hkz, _⟩ := R.item hul
        rw [hu, typ_at hz, hkz, htp] at b2
        omega
    · rcases S.typ with ⟨b1, b2⟩ | ⟨b1, b2⟩
      · exfalso
        have := (tys_root R.tys hty).2 (by omega)
        omega
      · obtain ⟨u, hu⟩ : ∃ u : Nat, p = (u : Int) := ⟨p.toNat, by omega⟩
        have mu := S.way hu
        have mr : (r : Int) ∈ pth b.types f (n - 1) := anc_trans _ m1 (par_mem hql a1)
        have : r = u := way_inj R (by omega) mr mu (by rw [a6, ← htp, b2, hu])
        omega
  rcases S.at' with h | ⟨c, h1, h2, h3, _⟩
  · have := par_lt b.types f q
    omega
  · have he := endOf_is b.types f h1
    have hlt := he.lt
    have mc : (c : Int) ∈ pth b.types f (n - 1) := by
      by_cases e : n - 1 = c
      · rw [e]; exact pth_self ..
      · exact he.all (n - 1) (by omega) (by omega)
    have hqc : q = c := way_par R (by omega) m1 mc (by rw [hqp, h2])
    subst hqc
    rw [h3] at mn
    exact he.no (by omega) mn
end
/-- the forest with the new item -/
def insX (f : List Item) (t : Int) (d : ByteArray) (n : Nat) : List Item := f.take n ++ ⟨t, d⟩ :: f.drop n
def sg (n k : Nat) : Nat := if k < n then k else k + 1
theorem sg_lt {n k : Nat} (h : k < n) : sg n k = k := if_pos h
theorem sg_ge {n k : Nat} (h : n ≤ k) : sg n k = k + 1 := if_neg (by omega)
theorem sg_mono {n a c : Nat} : sg n a < sg n c ↔ a < c := by
  unfold sg; split <;> split <;> omega
theorem sg_of {n j : Nat} (h : j ≠ n) : ∃ k, sg n k = j := by
  by_cases hj : j < n
  · exact ⟨j, sg_lt hj⟩
  · exact ⟨j - 1, by rw [sg_ge (by omega)]; omega⟩
section
variable {f : List Item} {t : Int} {d : ByteArray} {n : Nat} (hn : n ≤ f.length)
include hn
theorem insX_new : (insX f t d n)[n]? = some ⟨t, d⟩ := by
  unfold insX
  rw [List.getElem?_append_right (by rw [List.length_take]; omega), List.length_take, show n - min n f.length = 0 by omega]; rfl
theorem insX_old (k : Nat) : (insX f t d n)[sg n k]? = f[k]? := by
  unfold insX
  by_cases h : k < n
  · rw [sg_lt h, List.getElem?_append_left (by simp; omega), List.getElem?_take, if_pos h]
  · rw [sg_ge (by omega), List.getElem?_append_right (by simp; omega), List.length_take, show k + 1 - min n f.length = (k - n) + 1 by omega, List.getElem?_cons_succ, List.getElem?_drop]
    congr 1
    omega
theorem insX_len : (insX f t d n).length = f.length + 1 := by simp [insX]; omega
theorem typ_old (k : Nat) : typ (insX f t d n) (sg n k : Int) = typ f (k : Int) := by
  unfold typ
  rw [Int.toNat_natCast, Int.toNat_natCast, insX_old hn]
theorem dat_old (k : Nat) : dat (insX f t d n) (sg n k : Int) = dat f (k : Int) := by
  unfold dat
  rw [Int.toNat_natCast, Int.toNat_natCast, insX_old hn]
end
section
variable {b : Base} {f : List Item} {p t : Int} {d : ByteArray} {n : Nat} (S : Spot b f p t d n)
include S
theorem Spot.par' {k : Nat} (hk : k < f.length) : (par b.types f k = -1 ∧ par b.types (insX f t d n) (sg n k) = -1) ∨ ∃ q : Nat, par b.types f k = (q : Int) ∧ q < k ∧ par b.types (insX f t d n) (sg n k) = (sg n q : Int) := by
  have R := S.R
  have hn := S.le
  obtain ⟨x, kx, u, hx, hkx, _, hu, _⟩ := R.item hk
  have htp : tpar b.types (Code.typ (insX f t d n) (sg n k : Int)) = u.parent := by rw [typ_old hn, typ_at hx, hkx, tpar_at hu]
  rcases R.par hx hkx hu with ⟨h1, h2, hk0⟩ | ⟨q, h1, h2, _, h4, h5, h6⟩
  · exact .inl ⟨h2, by unfold Code.par; rw [htp, if_pos h1]⟩
  · refine .inr ⟨q, h1, h2, ?_⟩
    unfold Code.par
    rw [htp, if_neg (by omega)]
    refine lastTo_is (by rw [typ_old hn, h6]) _ (sg_mono.2 h2) fun j' h10 h11 he => ?_
    by_cases hj : j' = n
    · subst hj
      have hqn : q < j' := by
        apply Classical.byContradiction
        intro hc
        rw [sg_ge (by omega)] at h10; omega
      have hkn : j' ≤ k := by
        apply Classical.byContradiction
        intro hc
        rw [sg_lt (by omega)] at h11; omega
      rw [typ_at (insX_new hn)] at he
      simp only at he
      exact S.free hqn hkn hk (par_mem hk h1) (by rw [h6, ← he])
    · obtain ⟨j, rfl⟩ := sg_of hj
      rw [typ_old hn] at he
      have hpar : Code.par b.types f k = lastTo f u.parent k := by unfold Code.par; rw [typ_at hx, hkx, tpar_at hu, if_neg (by omega)]
      exact lastTo_past k j (p := u.parent) (f := f) (by rw [← hpar, h1]; have := sg_mono.1 h10; omega) (sg_mono.1 h11) he
theorem Spot.parN : par b.types (insX f t d n) n = p := by
  have R := S.R
  have hn := S.le
  have hg := S.gt
  unfold Code.par
  rw [typ_at (insX_new hn)]
  simp only
  rcases S.typ with ⟨b1, b2⟩ | ⟨b1, b2⟩
  · obtain ⟨k, ty, hk, _, hty, _⟩ := fits_some S.fit
    simp only at hk
    have hk0 : k = 0 := by omega
    have : ty.parent < 0 := (tys_root R.tys hty).2 hk0
    rw [show tpar b.types t = ty.parent by rw [hk, tpar_at hty], if_pos this]
    have := S.lo; omega
  · obtain ⟨u, rfl⟩ : ∃ u : Nat, p = (u : Int) := ⟨p.toNat, by omega⟩
    have hul : u < f.length := by have := S.hi; omega
    obtain ⟨z, kz, _, hz, hkz, _⟩ := R.item hul
    rw [if_neg (by rw [b2, typ_at hz, hkz]; omega)]
    have hun : u < n := by omega
    have hsu : sg n u = u := sg_lt hun
    refine lastTo_is (by rw [← hsu, typ_old hn, b2]) _ hun fun j h1 h2 he => ?_
    have hsj : sg n j = j := sg_lt h2
    rw [← hsj, typ_old hn, b2] at he
    have mu := S.way rfl
    have mj := way_between (Nat.le_refl _) R.ok (n - 1) (by omega) (u : Int) mu j (by omega) (by omega)
    have := way_typ R (by omega) mj (pth_self b.types f j) h1
    omega
theorem Spot.pth' : ∀ (m k : Nat), k ≤ m → k < f.length → pth b.types (insX f t d n) (sg n k) = (pth b.types f k).map fun a => (sg n a.toNat : Int) := by
  have hn := S.le
  have hlx := insX_len (t := t) (d := d) hn
  intro m
  induction m with
  | zero =>
    intro k hk hkl
    have hc : sg n k < (insX f t d n).length := by rw [hlx]; unfold sg; split <;> omega
    rcases S.par' hkl with ⟨h1, h2⟩ | ⟨q, h1, h2, _⟩
    · rw [pth_eq _ _ hkl, pth_eq _ _ hc, h1, h2, pthI_neg _ _ (by omega), pthI_neg _ _ (by omega)]; simp
    · omega
  | succ m ih =>
    intro k hk hkl
    have hc : sg n k < (insX f t d n).length := by rw [hlx]; unfold sg; split <;> omega
    rcases S.par' hkl with ⟨h1, h2⟩ | ⟨q, h1, h2, h3⟩
    · rw [pth_eq _ _ hkl, pth_eq _ _ hc, h1, h2, pthI_neg _ _ (by omega), pthI_neg _ _ (by omega)]; simp
    · rw [pth_eq _ _ hkl, pth_eq _ _ hc, h1, h3, pthI_nat, pthI_nat, ih q (by omega) (by omega)]; simp
end
end Go.Proofs.Ytbchmbddcdionaa.Code

