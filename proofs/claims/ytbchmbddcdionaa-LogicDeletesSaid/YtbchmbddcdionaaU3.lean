/- Texts of ours, joined into one file; each begins with its own remark. -/
import Derived.Test.YtbchmbddcdionaaU2
import Derived.KernelRfl
import Derived.Test.YtbchmbddcdionaaCodeB
import Derived.Test.YtbchmbddcdionaaWi
/- logic: the laws' arguments, opened; First and Small. -/
set_option linter.unusedSimpArgs false
set_option linter.unusedVariables false
namespace Go.Proofs.Ytbchmbddcdionaa.Code
open Go.Proofs.Ytbchmbddcdionaa.Ev

def eTwo (x : Pr) : AV := .agg [.str x.a.name, .int .i64 x.a.kind, eTys x.a.types, eSes x.a.indexes, .str x.b.name, .int .i64 x.b.kind, eTys x.b.types, eSes x.b.indexes, .int .i64 x.l.child, .int .i64 x.l.field, .str x.l.rule, eItems x.f, eItems x.g]
theorem open_Two {a : AV} (h : ArgTy true [.str, .int .i64, .sl [.str, .int .i64, .int .i64, .int .i64, .sl [.str, .int .i64, .int .i64], .int .i64, .bool, .bool], .sl [.str, .int .i64, .int .i64, .str], .str, .int .i64, .sl [.str, .int .i64, .int .i64, .int .i64, .sl [.str, .int .i64, .int .i64], .int .i64, .bool, .bool], .sl [.str, .int .i64, .int .i64, .str], .int .i64, .int .i64, .str, .sl [.int .i64, .str], .sl [.int .i64, .str]] a) : ∃ x : Pr, a = eTwo x ∧ x.Raw := by
  obtain ⟨bs, rfl, h⟩ := h
  simp only [HasL.eq_2, HasL.eq_1, Has] at h
  obtain ⟨_, _, rfl, ⟨n, rfl, hn⟩, _, _, rfl, ⟨k, rfl, _⟩, _, _, rfl, ⟨l, rfl, hl, hr⟩, _, _, rfl, ⟨l', rfl, hl', hr'⟩, _, _, rfl, ⟨n2, rfl, hn2⟩, _, _, rfl, ⟨k2, rfl, _⟩, _, _, rfl, ⟨l2, rfl, hl2, hr2⟩, _, _, rfl, ⟨l2', rfl, hl2', hr2'⟩,
    _, _, rfl, ⟨c, rfl, _⟩, _, _, rfl, ⟨fl, rfl, _⟩, _, _, rfl, ⟨ru, rfl, _⟩, _, _, rfl, ⟨f, rfl, hf, hrf⟩, _, _, rfl, ⟨g, rfl, hg, hrg⟩, rfl⟩ := h
  have T := fun (l : List (List AV)) (hr : ∀ r ∈ l, _) => typed (P := HasL [.str, .int .i64, .int .i64, .int .i64, .sl [.str, .int .i64, .int .i64], .int .i64, .bool, .bool]) (fun r h => open_Ty h) l (fun r h => by simpa only [HasL.eq_2, HasL.eq_1, Has] using hr r h)
  have Sx := fun (l : List (List AV)) (hr : ∀ r ∈ l, _) => typed (P := HasL [.str, .int .i64, .int .i64, .str]) (fun r h => open_Se h) l (fun r h => by simpa only [HasL.eq_2, HasL.eq_1, Has] using hr r h)
  have I := fun (l : List (List AV)) (hr : ∀ r ∈ l, _) => typed (P := HasL [.int .i64, .str]) (fun r h => open_Item h) l (fun r h => by simpa only [HasL.eq_2, HasL.eq_1, Has] using hr r h)
  obtain ⟨ts, rfl, hq⟩ := T l hr
  obtain ⟨xs, rfl, hq'⟩ := Sx l' hr'
  obtain ⟨ts2, rfl, hq2⟩ := T l2 hr2
  obtain ⟨xs2, rfl, hq2'⟩ := Sx l2' hr2'
  obtain ⟨fs, rfl, _⟩ := I f hrf
  obtain ⟨gs, rfl, _⟩ := I g hrg
  exact ⟨⟨⟨n, k, ts, xs⟩, ⟨n2, k2, ts2, xs2⟩, ⟨c, fl, ru⟩, fs, gs⟩, rfl, ⟨⟨reach_lt hn, reach_lt (by simpa using hl), hq, reach_lt (by simpa using hl'), hq'⟩, ⟨reach_lt hn2, reach_lt (by simpa using hl2), hq2, reach_lt (by simpa using hl2'), hq2'⟩, reach_lt (by simpa using hf), reach_lt (by simpa using hg)⟩⟩
theorem first_run : evCall cprog 300 10 [] [] = some (.bool true, []) := by kernel_rfl
theorem first_body : ∃ H', evBody (evC cprog) itLim c10 [] [] = some (.bool true, H') := by
  have h := evC_of first_run
  rw [evC_fn at10] at h
  have hc : c10.closed = true := rfl
  simp only [evFn, hc, if_true] at h
  split at h
  · rename_i b H' hb
    simp only [Option.some.injEq, Prod.mk.injEq, AV.bool.injEq] at h
    rw [hb, h.1]
    exact ⟨_, rfl⟩
  · cases h
theorem f10 (H : Heap) : cal (evC cprog) false 10 [] H = some (.bool true, H) := by
  rw [cal_of at10]
  obtain ⟨H', h⟩ := first_body
  have hc : c10.closed = true := rfl
  simp only [evFn, hc, if_true, h, calK_f, gc_same]
theorem f9 (x : Pr) (h : x.Raw) (H : Heap) : ∃ s : Bool, cal (evC cprog) false 9 [eTwo x] H = some (.bool s, H) ∧ (s = true → x.f.length ≤ 40 ∧ x.g.length ≤ 40) := by
  rw [cal_of at9]
  have h1 := f33 x.a h.a x.f h.f
  have h2 := f33 x.b h.b x.g h.g
  have hlf := (sItems [] x.f).len
  have hlg := (sItems [] x.g).len
  simp only [List.length_map] at hlf hlg
  simp only [eBase] at h1 h2
  refine ⟨small x.a x.f && small x.b x.g && decide ((x.f.length : Int) ≤ 40) && decide ((x.g.length : Int) ≤ 40), ?_, ?_⟩
  · cases s1 : small x.a x.f <;> cases s2 : small x.b x.g <;> rw [s1] at h1 <;> rw [s2] at h2
    · simp only [c9, eTwo, h1, h2, hlf, hlg, evX, Int.reduceEq, Int.reduceLT, Int.reduceLE, Nat.reduceMul, Nat.reduceMod, evW, fn_eq, evR, Nat.reduceAdd, Nat.reduceLT, Nat.reduceLeDiff, reduceIte, Nat.reduceEqDiff, reduceCtorEq, argEnv, eq_self, if_true, if_false]
      repeat' ((first | rw [guardK_cases] | rw [condK_bool] | rw [guardD_cases]); split <;> simp only [c9, eTwo, h1, h2, hlf, hlg, evX, Int.reduceEq, Int.reduceLT, Int.reduceLE, Nat.reduceMul, Nat.reduceMod, evW, evR, Nat.reduceAdd, Nat.reduceLT, Nat.reduceLeDiff, reduceIte, Nat.reduceEqDiff, reduceCtorEq, argEnv, eq_self, if_true, if_false, *])
    · simp only [c9, eTwo, h1, h2, hlf, hlg, evX, Int.reduceEq, Int.reduceLT, Int.reduceLE, Nat.reduceMul, Nat.reduceMod, evW, fn_eq, evR, Nat.reduceAdd, Nat.reduceLT, Nat.reduceLeDiff, reduceIte, Nat.reduceEqDiff, reduceCtorEq, argEnv, eq_self, if_true, if_false]
      repeat' ((first | rw [guardK_cases] | rw [condK_bool] | rw [guardD_cases]); split <;> simp only [c9, eTwo, h1, h2, hlf, hlg, evX, Int.reduceEq, Int.reduceLT, Int.reduceLE, Nat.reduceMul, Nat.reduceMod, evW, evR, Nat.reduceAdd, Nat.reduceLT, Nat.reduceLeDiff, reduceIte, Nat.reduceEqDiff, reduceCtorEq, argEnv, eq_self, if_true, if_false, *])
    · simp only [c9, eTwo, h1, h2, hlf, hlg, evX, Int.reduceEq, Int.reduceLT, Int.reduceLE, Nat.reduceMul, Nat.reduceMod, evW, fn_eq, evR, Nat.reduceAdd, Nat.reduceLT, Nat.reduceLeDiff, reduceIte, Nat.reduceEqDiff, reduceCtorEq, argEnv, eq_self, if_true, if_false]
      repeat' ((first | rw [guardK_cases] | rw [condK_bool] | rw [guardD_cases]); split <;> simp only [c9, eTwo, h1, h2, hlf, hlg, evX, Int.reduceEq, Int.reduceLT, Int.reduceLE, Nat.reduceMul, Nat.reduceMod, evW, evR, Nat.reduceAdd, Nat.reduceLT, Nat.reduceLeDiff, reduceIte, Nat.reduceEqDiff, reduceCtorEq, argEnv, eq_self, if_true, if_false, *])
    · by_cases k1 : (x.f.length : Int) ≤ 40
      · simp only [c9, eTwo, h1, h2, hlf, hlg, k1, evX, Int.reduceEq, Int.reduceLT, Int.reduceLE, Nat.reduceMul, Nat.reduceMod, evW, fn_eq, evR, Nat.reduceAdd, Nat.reduceLT, Nat.reduceLeDiff, reduceIte, Nat.reduceEqDiff, reduceCtorEq, argEnv, eq_self, if_true, if_false]
        repeat' ((first | rw [guardK_cases] | rw [condK_bool] | rw [guardD_cases]); split <;> simp only [c9, eTwo, h1, h2, hlf, hlg, k1, evX, Int.reduceEq, Int.reduceLT, Int.reduceLE, Nat.reduceMul, Nat.reduceMod, evW, evR, Nat.reduceAdd, Nat.reduceLT, Nat.reduceLeDiff, reduceIte, Nat.reduceEqDiff, reduceCtorEq, argEnv, eq_self, if_true, if_false, *])
      · simp only [c9, eTwo, h1, h2, hlf, hlg, k1, evX, Int.reduceEq, Int.reduceLT, Int.reduceLE, Nat.reduceMul, Nat.reduceMod, evW, fn_eq, evR, Nat.reduceAdd, Nat.reduceLT, Nat.reduceLeDiff, reduceIte, Nat.reduceEqDiff, reduceCtorEq, argEnv, eq_self, if_true, if_false]
        repeat' ((first | rw [guardK_cases] | rw [condK_bool] | rw [guardD_cases]); split <;> simp only [c9, eTwo, h1, h2, hlf, hlg, k1, evX, Int.reduceEq, Int.reduceLT, Int.reduceLE, Nat.reduceMul, Nat.reduceMod, evW, evR, Nat.reduceAdd, Nat.reduceLT, Nat.reduceLeDiff, reduceIte, Nat.reduceEqDiff, reduceCtorEq, argEnv, eq_self, if_true, if_false, *])
  · simp only [Bool.and_eq_true, decide_eq_true_eq]
    intro h; omega
end Go.Proofs.Ytbchmbddcdionaa.Code

/- logic: children, of the program and of the document. -/
set_option linter.unusedSimpArgs false
set_option linter.unusedVariables false
namespace Go.Proofs.Ytbchmbddcdionaa.Code
open Go.Proofs.Ytbchmbddcdionaa.Ev

def isKid (x : Pr) (key : ByteArray) (y : Item) : Bool := decide (y.type = x.l.child) && decide (kOf x y.data = key)
def kids (x : Pr) (key : ByteArray) : List Int := gath (fun i y => if isKid x key y = true then [(i : Int)] else []) 0 x.f
theorem Pr.Ok.rg {x : Pr} (h : x.Ok) : Right x.b x.g := ⟨h.b, h.vb, h.g⟩
/-- an item's parent is the root with its key -/
theorem up_iff {x : Pr} (h : x.Ok) {i : Nat} {y : Item} (hy : x.g[i]? = some y) (ht : y.type = 0) (d : ByteArray) : upI x d = (i : Int) ↔ kOf x d = keyOf (rootTy x.b) y.data := by
  constructor
  · intro hu
    rcases idxOf_cases (isRoot x.b (kOf x d)) x.g with ⟨h1, _⟩ | ⟨m, z, h1, h2, h3⟩
    · unfold upI rootIx at hu; rw [h1] at hu; omega
    · unfold upI rootIx at hu
      have : m = i := by omega
      subst this
      rw [hy] at h2; cases h2
      simp only [isRoot, Bool.and_eq_true, decide_eq_true_eq] at h3
      exact h3.2.symm
  · intro hk
    refine idxOf_first hy (by simp [isRoot, ht, hk]) fun j z hj hz => ?_
    cases hr : isRoot x.b (kOf x d) z with
    | false => rfl
    | true =>
      simp only [isRoot, Bool.and_eq_true, decide_eq_true_eq] at hr
      have := roots_apart h.rg hz hy hr.1 ht (by rw [hr.2, hk])
      omega
theorem kids_len (x : Pr) (key : ByteArray) : (kids x key).length ≤ x.f.length := gath_len _ (fun i y => by split <;> simp) _ _
theorem f38 (x : Pr) (h : x.Ok) (j : Nat) (u : Item) (hu : x.g[j]? = some u) (ht : u.type = 0) (n : Nat) (H : Heap) (hs : Sits H n (bPair x)) :
    cal (evC cprog) true 38 [.ptr n 0 13 0 0, .int .i64 (j : Int)] H = some (eIs (kids x (keyOf (rootTy x.b) u.data)), H) := by
  rw [cal_of at38]
  obtain ⟨hl, hf⟩ := forest_fits h.f
  obtain ⟨hlg, hg⟩ := forest_fits h.g
  obtain ⟨r, m, k, hr, hro, _⟩ := root_at h.vb
  have h64 : ∀ H, cal (evC cprog) false 64 [eBase x.b, .int .i64 0, .str u.data] H = some (.tup [.str (keyOf r u.data), .int .i64 0], H) := fun H => f64k x.b h.b h.vb 0 r hr hro u.data (by
    rw [show (⟨((0 : Nat) : Int), u.data⟩ : Item) = u by cases u; simp_all]; exact hg j u hu) H
  have hrt : rootTy x.b = r := tyOf_at hr
  rw [hrt]
  simp only [eBase] at h64
  have hlen := (sItems [] x.f).len
  simp only [List.length_map] at hlen
  have hau := aItem hu
  have g0 := hs.at
  have hs0 := hs
  simp only [bPair, Sits] at hs g0
  simp only [c38, nck_ptr, g0, hlen, hau, rItem, h64, evX, Int.reduceEq, Int.reduceLT, Int.reduceLE, Nat.reduceMul, Nat.reduceMod, evW, fn_eq, evR, Nat.reduceAdd, Nat.reduceLT, Nat.reduceLeDiff, reduceIte, Nat.reduceEqDiff, reduceCtorEq, argEnv, eq_self, if_true, if_false]
  repeat' ((first | rw [guardK_cases] | rw [condK_bool] | rw [guardD_cases]); split <;> simp only [c38, nck_ptr, g0, hlen, hau, rItem, h64, evX, Int.reduceEq, Int.reduceLT, Int.reduceLE, Nat.reduceMul, Nat.reduceMod, evW, evR, Nat.reduceAdd, Nat.reduceLT, Nat.reduceLeDiff, reduceIte, Nat.reduceEqDiff, reduceCtorEq, argEnv, eq_self, if_true, if_false, *])
  generalize hz : itLim _ _ = z
  have L := gath_rule x.f (fun i y => if isKid x (keyOf r u.data) y = true then [(i : Int)] else []) rI [0, 5, 7, 29, 30] (fun i rv => [(0, .ptr n 0 13 0 0), (5, .str (keyOf r u.data)), (7, rv), (29, .int .i64 (x.f.length : Int)), (30, .int .i64 (i : Int))]) H 1 3 (evCode (evC cprog) itLim c38_l0) 0 [7] (fun rv => [(7, rv)])
    (fun i y hy E X rv hE hO => by
      have hlt : i < x.f.length := (List.getElem?_eq_some_iff.1 hy).1
      have hi : (i : Int) < (x.f.length : Int) := by omega
      have hw := wrapS hlt (by omega)
      have ha := aItem hy
      have h51 := f51 x (i : Int) n (H ++ X) (hs0.app X)
      rw [isCh_at hy] at h51
      by_cases hc : y.type = x.l.child
      · have h65 := f65 x h y.data (by rw [← hc]; exact hf i y hy) n (H ++ X) (hs0.app X)
        rw [decide_eq_true hc] at h51
        by_cases hk : kOf x y.data = keyOf r u.data
        · have hkid : isKid x (keyOf r u.data) y = true := by simp [isKid, hc, hk]
          rw [if_pos hkid]
          obtain ⟨rv', X', a1, a2, a3⟩ := app_int hO H rfl (by
            have := gath_len (fun i y => if isKid x (keyOf r u.data) y = true then [(i : Int)] else []) (fun i y => by split <;> simp) (x.f.take i) 0
            rw [List.length_take] at this; omega) (i : Int)
          simp only [c38_l0, nck_ptr, hE, hi, hs, h51, h65, ha, rItem, hk, a1, a2, hw, evX, Int.reduceEq, Int.reduceLT, Int.reduceLE, Nat.reduceMul, Nat.reduceMod, evW, fn_eq, evR, Nat.reduceAdd, Nat.reduceLT, Nat.reduceLeDiff, reduceIte, Nat.reduceEqDiff, reduceCtorEq, argEnv, eq_self, if_true, if_false]
          repeat' ((first | rw [guardK_cases] | rw [condK_bool] | rw [guardD_cases]); split <;> simp only [c38_l0, nck_ptr, hE, hi, hs, h51, h65, ha, rItem, hk, a1, a2, hw, evX, Int.reduceEq, Int.reduceLT, Int.reduceLE, Nat.reduceMul, Nat.reduceMod, evW, evR, Nat.reduceAdd, Nat.reduceLT, Nat.reduceLeDiff, reduceIte, Nat.reduceEqDiff, reduceCtorEq, argEnv, eq_self, if_true, if_false, *])
          exact ⟨_, _, _, rfl, by rfl, by simpa using a3⟩
        · have hkid : isKid x (keyOf r u.data) y = false := by simp [isKid, hk]
          rw [if_neg (by rw [hkid]; simp)]
          simp only [c38_l0, nck_ptr, hE, hi, hs, h51, h65, ha, rItem, hk, hw, evX, Int.reduceEq, Int.reduceLT, Int.reduceLE, Nat.reduceMul, Nat.reduceMod, evW, fn_eq, evR, Nat.reduceAdd, Nat.reduceLT, Nat.reduceLeDiff, reduceIte, Nat.reduceEqDiff, reduceCtorEq, argEnv, eq_self, if_true, if_false]
          repeat' ((first | rw [guardK_cases] | rw [condK_bool] | rw [guardD_cases]); split <;> simp only [c38_l0, nck_ptr, hE, hi, hs, h51, h65, ha, rItem, hk, hw, evX, Int.reduceEq, Int.reduceLT, Int.reduceLE, Nat.reduceMul, Nat.reduceMod, evW, evR, Nat.reduceAdd, Nat.reduceLT, Nat.reduceLeDiff, reduceIte, Nat.reduceEqDiff, reduceCtorEq, argEnv, eq_self, if_true, if_false, *])
          exact ⟨_, _, _, rfl, by rfl, by simpa using hO⟩
      · have hkid : isKid x (keyOf r u.data) y = false := by simp [isKid, hc]
        rw [decide_eq_false hc] at h51
        rw [if_neg (by rw [hkid]; simp)]
        simp only [c38_l0, nck_ptr, hE, hi, h51, hw, evX, Int.reduceEq, Int.reduceLT, Int.reduceLE, Nat.reduceMul, Nat.reduceMod, evW, fn_eq, evR, Nat.reduceAdd, Nat.reduceLT, Nat.reduceLeDiff, reduceIte, Nat.reduceEqDiff, reduceCtorEq, argEnv, eq_self, if_true, if_false]
        repeat' ((first | rw [guardK_cases] | rw [condK_bool] | rw [guardD_cases]); split <;> simp only [c38_l0, nck_ptr, hE, hi, h51, hw, evX, Int.reduceEq, Int.reduceLT, Int.reduceLE, Nat.reduceMul, Nat.reduceMod, evW, evR, Nat.reduceAdd, Nat.reduceLT, Nat.reduceLeDiff, reduceIte, Nat.reduceEqDiff, reduceCtorEq, argEnv, eq_self, if_true, if_false, *])
        exact ⟨_, _, _, rfl, by rfl, by simpa using hO⟩)
    (fun E X rv hE => by
      simp only [c38_l0, nck_ptr, hE, Int.lt_irrefl, evX, Int.reduceEq, Int.reduceLT, Int.reduceLE, Nat.reduceMul, Nat.reduceMod, evW, fn_eq, evR, Nat.reduceAdd, Nat.reduceLT, Nat.reduceLeDiff, reduceIte, Nat.reduceEqDiff, reduceCtorEq, argEnv, eq_self, if_true, if_false]
      repeat' ((first | rw [guardK_cases] | rw [condK_bool] | rw [guardD_cases]); split <;> simp only [c38_l0, nck_ptr, hE, Int.lt_irrefl, evX, Int.reduceEq, Int.reduceLT, Int.reduceLE, Nat.reduceMul, Nat.reduceMod, evW, evR, Nat.reduceAdd, Nat.reduceLT, Nat.reduceLeDiff, reduceIte, Nat.reduceEqDiff, reduceCtorEq, argEnv, eq_self, if_true, if_false, *])
      exact ⟨_, rfl, by rfl⟩) _ [] .nils (.nils ..) (by rfl) (by simp) z hz
  obtain ⟨T, X, rv, rfl, hT, hO⟩ := L
  simp only [hT, out_tup hO, evX, Int.reduceEq, Int.reduceLT, Int.reduceLE, Nat.reduceMul, Nat.reduceMod, evW, fn_eq, evR, Nat.reduceAdd, Nat.reduceLT, Nat.reduceLeDiff, reduceIte, Nat.reduceEqDiff, reduceCtorEq, argEnv, eq_self, if_true, if_false]
  repeat' ((first | rw [guardK_cases] | rw [condK_bool] | rw [guardD_cases]); split <;> simp only [hT, out_tup hO, evX, Int.reduceEq, Int.reduceLT, Int.reduceLE, Nat.reduceMul, Nat.reduceMod, evW, evR, Nat.reduceAdd, Nat.reduceLT, Nat.reduceLeDiff, reduceIte, Nat.reduceEqDiff, reduceCtorEq, argEnv, eq_self, if_true, if_false, *])
  exact frz_out hO H [] (by simp) (fz_rI _)
theorem f40 (x : Pr) (h : x.Ok) (j : Nat) (u : Item) (hu : x.g[j]? = some u) (ht : u.type = 0) (H : Heap) :
    cal (evC cprog) true 40 [eBase x.a, eBase x.b, eLink x.l, eItems x.f, eItems x.g, .int .i64 (j : Int)] H = some (eIs (kids x (keyOf (rootTy x.b) u.data)), H) := by
  rw [cal_of at40]
  obtain ⟨hl, hf⟩ := forest_fits h.f
  have hlen := (sItems [] x.f).len
  simp only [List.length_map] at hlen
  simp only [c40, eBase, eLink, evX, Int.reduceEq, Int.reduceLT, Int.reduceLE, Nat.reduceMul, Nat.reduceMod, evW, fn_eq, evR, Nat.reduceAdd, Nat.reduceLT, Nat.reduceLeDiff, reduceIte, Nat.reduceEqDiff, reduceCtorEq, argEnv, eq_self, if_true, if_false]
  repeat' ((first | rw [guardK_cases] | rw [condK_bool] | rw [guardD_cases]); split <;> simp only [c40, eBase, eLink, evX, Int.reduceEq, Int.reduceLT, Int.reduceLE, Nat.reduceMul, Nat.reduceMod, evW, evR, Nat.reduceAdd, Nat.reduceLT, Nat.reduceLeDiff, reduceIte, Nat.reduceEqDiff, reduceCtorEq, argEnv, eq_self, if_true, if_false, *])
  generalize hz : itLim _ _ = z
  have key : ∀ (H' : Heap) (n : Nat), Sits H' n (bBase x.a) → Sits H' (n + 1) (bBase x.b) → Sits H' (n + 2) (bLink x.l) → ∀ (st : St), keepEnv st.1 [3, 4, 5, 6, 7, 8, 13, 14] = [(3, eItems x.f), (4, eItems x.g), (5, .int .i64 (j : Int)), (6, .ptr n 0 4 0 0), (7, .ptr (n + 1) 0 4 0 0), (8, .ptr (n + 2) 0 3 0 0), (13, .nils), (14, .int .i64 0)] → st.2 = H' ++ [] → ∀ z, itLim (evCode (evC cprog) itLim c40_l0) st = z →
      ∃ T X rv, z = some (.exit 0, T, H' ++ X) ∧ keepEnv T [13] = [(13, rv)] ∧ Out H'.length 1 3 X rv ((kids x (keyOf (rootTy x.b) u.data)).map rI) := by
    intro H' n h1 h2 h3 st hE hH z hz
    simp only [bBase, bLink, Sits] at h1 h2 h3
    refine gath_rule x.f (fun i y => if isKid x (keyOf (rootTy x.b) u.data) y = true then [(i : Int)] else []) rI [3, 4, 5, 6, 7, 8, 13, 14] (fun i rv => [(3, eItems x.f), (4, eItems x.g), (5, .int .i64 (j : Int)), (6, .ptr n 0 4 0 0), (7, .ptr (n + 1) 0 4 0 0), (8, .ptr (n + 2) 0 3 0 0), (13, rv), (14, .int .i64 (i : Int))]) H' 1 3 (evCode (evC cprog) itLim c40_l0) 0 [13] (fun rv => [(13, rv)])
      (fun i y hy E X rv hE hO => ?_)
      (fun E X rv hE => by
        simp only [c40_l0, hE, hlen, Int.lt_irrefl, evX, Int.reduceEq, Int.reduceLT, Int.reduceLE, Nat.reduceMul, Nat.reduceMod, evW, fn_eq, evR, Nat.reduceAdd, Nat.reduceLT, Nat.reduceLeDiff, reduceIte, Nat.reduceEqDiff, reduceCtorEq, argEnv, eq_self, if_true, if_false]
        repeat' ((first | rw [guardK_cases] | rw [condK_bool] | rw [guardD_cases]); split <;> simp only [c40_l0, hE, hlen, Int.lt_irrefl, evX, Int.reduceEq, Int.reduceLT, Int.reduceLE, Nat.reduceMul, Nat.reduceMod, evW, evR, Nat.reduceAdd, Nat.reduceLT, Nat.reduceLeDiff, reduceIte, Nat.reduceEqDiff, reduceCtorEq, argEnv, eq_self, if_true, if_false, *])
        exact ⟨_, rfl, by rfl⟩) st [] .nils (.nils ..) hE hH z hz
    have hlt : i < x.f.length := (List.getElem?_eq_some_iff.1 hy).1
    have hi : (i : Int) < (x.f.length : Int) := by omega
    have hw := wrapS hlt (by omega)
    have ha := aItem hy
    by_cases hc : y.type = x.l.child
    · have h54 := f54 x h y.data (by rw [← hc]; exact hf i y hy)
      have hiff := up_iff h hu ht y.data
      simp only [eBase, eLink] at h54
      by_cases hk : upI x y.data = (j : Int)
      · have hkid : isKid x (keyOf (rootTy x.b) u.data) y = true := by simp [isKid, hc, hiff.1 hk]
        rw [if_pos hkid]
        obtain ⟨rv', X', a1, a2, a3⟩ := app_int hO H' rfl (by
          have := gath_len (fun i y => if isKid x (keyOf (rootTy x.b) u.data) y = true then [(i : Int)] else []) (fun i y => by split <;> simp) (x.f.take i) 0
          rw [List.length_take] at this; omega) (i : Int)
        simp only [c40_l0, hE, hi, hlen, h1, h2, h3, ha, rItem, hc, h54, hk, a1, a2, hw, evX, Int.reduceEq, Int.reduceLT, Int.reduceLE, Nat.reduceMul, Nat.reduceMod, evW, fn_eq, evR, Nat.reduceAdd, Nat.reduceLT, Nat.reduceLeDiff, reduceIte, Nat.reduceEqDiff, reduceCtorEq, argEnv, eq_self, if_true, if_false]
        repeat' ((first | rw [guardK_cases] | rw [condK_bool] | rw [guardD_cases]); split <;> simp only [c40_l0, hE, hi, hlen, h1, h2, h3, ha, rItem, hc, h54, hk, a1, a2, hw, evX, Int.reduceEq, Int.reduceLT, Int.reduceLE, Nat.reduceMul, Nat.reduceMod, evW, evR, Nat.reduceAdd, Nat.reduceLT, Nat.reduceLeDiff, reduceIte, Nat.reduceEqDiff, reduceCtorEq, argEnv, eq_self, if_true, if_false, *])
        exact ⟨_, _, _, rfl, by rfl, by simpa using a3⟩
      · have hkid : isKid x (keyOf (rootTy x.b) u.data) y = false := by
          simp only [isKid, Bool.and_eq_false_iff, decide_eq_false_iff_not]
          exact .inr fun e => hk (hiff.2 e)
        rw [if_neg (by rw [hkid]; simp)]
        simp only [c40_l0, hE, hi, hlen, h1, h2, h3, ha, rItem, hc, h54, hk, hw, evX, Int.reduceEq, Int.reduceLT, Int.reduceLE, Nat.reduceMul, Nat.reduceMod, evW, fn_eq, evR, Nat.reduceAdd, Nat.reduceLT, Nat.reduceLeDiff, reduceIte, Nat.reduceEqDiff, reduceCtorEq, argEnv, eq_self, if_true, if_false]
        repeat' ((first | rw [guardK_cases] | rw [condK_bool] | rw [guardD_cases]); split <;> simp only [c40_l0, hE, hi, hlen, h1, h2, h3, ha, rItem, hc, h54, hk, hw, evX, Int.reduceEq, Int.reduceLT, Int.reduceLE, Nat.reduceMul, Nat.reduceMod, evW, evR, Nat.reduceAdd, Nat.reduceLT, Nat.reduceLeDiff, reduceIte, Nat.reduceEqDiff, reduceCtorEq, argEnv, eq_self, if_true, if_false, *])
        exact ⟨_, _, _, rfl, by rfl, by simpa using hO⟩
    · have hkid : isKid x (keyOf (rootTy x.b) u.data) y = false := by simp [isKid, hc]
      rw [if_neg (by rw [hkid]; simp)]
      simp only [c40_l0, hE, hi, hlen, h1, h2, h3, ha, rItem, hc, hw, evX, Int.reduceEq, Int.reduceLT, Int.reduceLE, Nat.reduceMul, Nat.reduceMod, evW, fn_eq, evR, Nat.reduceAdd, Nat.reduceLT, Nat.reduceLeDiff, reduceIte, Nat.reduceEqDiff, reduceCtorEq, argEnv, eq_self, if_true, if_false]
      repeat' ((first | rw [guardK_cases] | rw [condK_bool] | rw [guardD_cases]); split <;> simp only [c40_l0, hE, hi, hlen, h1, h2, h3, ha, rItem, hc, hw, evX, Int.reduceEq, Int.reduceLT, Int.reduceLE, Nat.reduceMul, Nat.reduceMod, evW, evR, Nat.reduceAdd, Nat.reduceLT, Nat.reduceLeDiff, reduceIte, Nat.reduceEqDiff, reduceCtorEq, argEnv, eq_self, if_true, if_false, *])
      exact ⟨_, _, _, rfl, by rfl, by simpa using hO⟩
  obtain ⟨T, X, rv, rfl, hT, hO⟩ := key (H ++ [bBase x.a, bBase x.b, bLink x.l]) H.length (.mk (by simp)) (.mk (by simp)) (.mk (by simp)) _ (by rfl) (by simp [bBase, bLink]) z hz
  simp only [hT, out_tup hO, evX, Int.reduceEq, Int.reduceLT, Int.reduceLE, Nat.reduceMul, Nat.reduceMod, evW, fn_eq, evR, Nat.reduceAdd, Nat.reduceLT, Nat.reduceLeDiff, reduceIte, Nat.reduceEqDiff, reduceCtorEq, argEnv, eq_self, if_true, if_false]
  repeat' ((first | rw [guardK_cases] | rw [condK_bool] | rw [guardD_cases]); split <;> simp only [hT, out_tup hO, evX, Int.reduceEq, Int.reduceLT, Int.reduceLE, Nat.reduceMul, Nat.reduceMod, evW, evR, Nat.reduceAdd, Nat.reduceLT, Nat.reduceLeDiff, reduceIte, Nat.reduceEqDiff, reduceCtorEq, argEnv, eq_self, if_true, if_false, *])
  exact frz_out hO H [bBase x.a, bBase x.b, bLink x.l] (by simp) (fz_rI _)
end Go.Proofs.Ytbchmbddcdionaa.Code

/- logic: Parent, Children, Lost, of the program and of the document. -/
set_option linter.unusedSimpArgs false
set_option linter.unusedVariables false
namespace Go.Proofs.Ytbchmbddcdionaa.Code
open Go.Proofs.Ytbchmbddcdionaa.Ev

end Go.Proofs.Ytbchmbddcdionaa.Code

/- logic: all functions are held, by the kernel's look or by a proof of their own. -/
set_option linter.unusedSimpArgs false
set_option linter.unusedVariables false
namespace Go.Proofs.Ytbchmbddcdionaa.Code
open Go.Proofs.Ytbchmbddcdionaa.Ev

theorem cprog_sound {f : Nat} {c : CFn} (h : cprog f = some c) : okFn Go.Proofs.Try.prog f c = true ∨ Held Go.Proofs.Try.prog f c := by
  rcases cprog_ok h with h | h
  · exact .inl h
  · simp only [utab, List.mem_cons, Prod.mk.injEq, List.not_mem_nil, or_false] at h
    rcases h with ⟨rfl, rfl⟩ | ⟨rfl, rfl⟩ | ⟨rfl, rfl⟩
    · exact .inr (.inr (fnM_sound (by kernel_rfl) back66 (by kernel_rfl)))
    · exact .inr (.inl (user43 rfl rfl rfl rfl))
    · exact .inr (.inl (user45 rfl rfl rfl rfl))
end Go.Proofs.Ytbchmbddcdionaa.Code

/- logic: Delete, of the program and of the document. -/
set_option linter.unusedSimpArgs false
set_option linter.unusedVariables false
namespace Go.Proofs.Ytbchmbddcdionaa.Code
open Go.Proofs.Ytbchmbddcdionaa.Ev

/-- the roots' children that go with an item -/
def gone (x : Pr) (i : Int) : List Int := if typ x.g i = 0 then kids x (keyOf (rootTy x.b) (dat x.g i)) else []
noncomputable def dels (b : Base) (f : List Item) (ks : List Int) : List Item := ks.foldr (fun k f => delR b f k) f
noncomputable def dlE (x : Pr) (i : Int) : Int := if askE x = 0 then (if errF x.b x.g [i] = 0 then (if decide (x.l.rule = ⟨#[80]⟩) && decide (gone x i ≠ []) then 181 else 0) else errF x.b x.g [i]) else askE x
noncomputable def dlL (x : Pr) (i : Int) : List Item := if dlE x i = 0 then (if x.l.rule = ⟨#[86]⟩ then dels x.a x.f (gone x i) else x.f) else []
noncomputable def dlR (x : Pr) (i : Int) : List Item := if dlE x i = 0 then delR x.b x.g i else []
def eLLE (l m : List Item) (e : Int) : AV := .tup [eItems l, eItems m, .int .i64 e]
theorem gone_len (x : Pr) (i : Int) : (gone x i).length ≤ x.f.length := by
  unfold gone
  split
  · exact kids_len _ _
  · simp
theorem delR_len (b : Base) (hb : b.Ok) (f : List Item) (i : Int) : (delR b f i).length ≤ f.length := by
  unfold delR
  split
  · rename_i h
    obtain ⟨h0, h1⟩ := (errF_zero hb h).2 i (by simp)
    have := (endOf_is b.types f (i := i.toNat) (by omega)).lt
    simp only [List.length_append, List.length_take, List.length_drop]
    omega
  · simp
theorem dels_len (b : Base) (hb : b.Ok) (f : List Item) : ∀ ks : List Int, (dels b f ks).length ≤ f.length
  | [] => Nat.le_refl _
  | k :: ks => Nat.le_trans (delR_len b hb _ k) (dels_len b hb f ks)
theorem f37z (f : List Item) (hl : f.length ≤ 1000) (H : Heap) : cal (evC cprog) true 37 [eItems f] H = some (eItems f, H) := by
  cases f with
  | nil =>
    have h := clone_nil (ty := 44) (sz := 2) (bytes := 24) at37 H
    exact cal_frz (ids := []) h rfl rfl (by simp) (by simp)
  | cons y ys =>
    have h := f37 (f := y :: ys) (i := 0) (by simp) hl H
    obtain ⟨ids, g1, g2⟩ := fz_blk (H := H ++ [⟨0, true, 44, 2, (y :: ys).map rItem⟩]) (b := H.length) (v := 0) (sz := 2) (len := (y :: ys).length) (k := ⟨0, true, 44, 2, (y :: ys).map rItem⟩) (by simp [curBlk]) (rows := (y :: ys).map rItem)
      (by rw [List.take_of_length_le (by simp)]) (plain_items _) 6
    exact cal_frz (ids := ids) h g1 rfl (by simp) (fun b hb => by rw [g2 b hb]; exact Nat.le_refl _)
theorem fapp_items {l : List Item} (hl : l.length ≤ 1000) (H : Heap) : fappK 2 24 H (some .nil0) (some (eItems l)) = some (eItems l) := by
  cases l with
  | nil => rfl
  | cons y ys =>
    have hfl : ((y :: ys).map rItem).all (fun r => r.all AV.flat) = true := by
      rw [List.all_eq_true]; intro r hr
      obtain ⟨f, _, rfl⟩ := List.mem_map.1 hr
      rfl
    have hc : ((y :: ys).map rItem).length * 24 ≤ reach ∧ ((y :: ys).map rItem).length ≤ reach := by rw [List.length_map]; simp only [reach]; omega
    show fappV 2 24 .nil0 ((y :: ys).map rItem) = _
    simp only [fappV]
    rw [if_neg (by simp), if_pos ⟨headOk_map rItem (fun _ => rfl) _, hc.1, hc.2, hfl⟩]; rfl
/-! the rounds -/
/-- a round of logic.Delete's loop -/
def c11_r0 : CC := .block 1 (.region [6, 18, 21] [oL 73 4 6, ol 74 1 18, oM 75 21, oO 76 (z3 36 73 74 75), oM 72 76, oE 77 72 0, oE 78 72 1, oS 1 18 77])
theorem intsOf_map : ∀ ks : List Int, intsOf (ks.map rI) = some ks
  | [] => rfl
  | k :: ks => by simp only [List.map_cons, rI, intsOf, intsOf_map ks, Option.map_some]
def itBox (ks : List Int) : Blk := ⟨0, true, 42, 1, [[eIs ks]]⟩
theorem intsAt_box (H0 : Heap) (L : Blk) (ks : List Int) (hk : ks.length ≤ 1000) : intsAt (H0 ++ [L, itBox ks]) (.ptr (H0.length + 1) 0 1 0 0) = some ks := by
  unfold itBox
  have hc : curBlk (H0 ++ [L, ⟨0, true, 42, 1, [[eIs ks]]⟩]) (H0.length + 1) 0 1 = some ⟨0, true, 42, 1, [[eIs ks]]⟩ := by simp [curBlk]
  have hl : evLoad false 1 (H0 ++ [L, ⟨0, true, 42, 1, [[eIs ks]]⟩]) (.ptr (H0.length + 1) 0 1 0 0) = some (eIs ks) := by simp [evLoad, hc]
  unfold intsAt
  rw [hl]
  simp only [eIs]
  rw [if_pos (by rw [List.length_map]; simp only [reach]; omega), intsOf_map]
def left (f : List Item) : Blk := ⟨0, true, 28, 1, [[eItems f]]⟩
theorem cells_eItems' (l : List Item) : (eItems l).cells = [eItems l] := rfl
theorem isTup_eItems' (l : List Item) : (eItems l).isTup = false := rfl
theorem rnd_one (x : Pr) (h : x.Raw) (n : Nat) (H0 : Heap) (hs : Sits H0 n (bBase x.a)) (T : Env) (h6 : get T 6 = some (.ptr n 0 4 0 0)) (h18 : get T 18 = some (.ptr H0.length 0 1 0 0)) (it : Blk) (f : List Item) (hf : f.length ≤ 1000) (k z : Int) :
    ∃ T', evCode (evC cprog) itLim c11_r0 (put (put (put T (some 70) (.int .i64 k)) (some 71) (.int .i64 z)) (some 21) (.int .i64 z), H0 ++ [left f, it]) = some (.normal, (T', H0 ++ [left (delR x.a f z), it])) := by
  have q36 := f36 x.a h.a f (by omega) z
  simp only [eBase, eLE] at q36
  simp only [bBase, Sits] at hs
  simp only [c11_r0, left, hs, h6, h18, q36, cells_eItems', isTup_eItems', evX, Int.reduceEq, Int.reduceLT, Int.reduceLE, Nat.reduceMul, Nat.reduceMod, evW, fn_eq, evR, Nat.reduceAdd, Nat.reduceLT, Nat.reduceLeDiff, reduceIte, Nat.reduceEqDiff, reduceCtorEq, argEnv, eq_self, if_true, if_false]
  repeat' ((first | rw [guardK_cases] | rw [condK_bool] | rw [guardD_cases]); split <;> simp only [c11_r0, left, hs, h6, h18, q36, cells_eItems', isTup_eItems', evX, Int.reduceEq, Int.reduceLT, Int.reduceLE, Nat.reduceMul, Nat.reduceMod, evW, evR, Nat.reduceAdd, Nat.reduceLT, Nat.reduceLeDiff, reduceIte, Nat.reduceEqDiff, reduceCtorEq, argEnv, eq_self, if_true, if_false, *])
  all_goals exact ⟨_, rfl⟩
theorem rnds_left (x : Pr) (h : x.Raw) (n : Nat) (H0 : Heap) (hs : Sits H0 n (bBase x.a)) (T : Env) (h6 : get T 6 = some (.ptr n 0 4 0 0)) (h18 : get T 18 = some (.ptr H0.length 0 1 0 0)) (ks : List Int) (hk : ks.length ≤ 1000) :
    ∀ (l : List (Int × Nat)) (f : List Item), f.length ≤ 1000 → evRnd (evCode (evC cprog) itLim c11_r0) T 70 71 21 (.ptr (H0.length + 1) 0 1 0 0) ks l (H0 ++ [left f, itBox ks]) = some (H0 ++ [left (l.foldl (fun f z => delR x.a f z.1) f), itBox ks])
  | [], f, _ => rfl
  | (z, k) :: l, f, hf => by
    obtain ⟨T', hb⟩ := rnd_one x h n H0 hs T h6 h18 (itBox ks) f hf (k : Int) z
    simp only [evRnd, hb]
    rw [if_pos (intsAt_box H0 (left (delR x.a f z)) ks hk)]
    exact rnds_left x h n H0 hs T h6 h18 ks hk l _ (Nat.le_trans (delR_len x.a h.a f z) hf)
theorem dels_fold (b : Base) (f : List Item) (ks : List Int) : ks.zipIdx.reverse.foldl (fun f z => delR b f z.1) f = dels b f ks := by
  rw [List.foldl_reverse]
  unfold dels
  have h : ks = ks.zipIdx.map Prod.fst := by simp
  conv => rhs; rw [h, List.foldr_map]
/-- the loop of logic.Delete -/
theorem rnds_all (x : Pr) (h : x.Raw) (n : Nat) (H0 : Heap) (hs : Sits H0 n (bBase x.a)) (T : Env) (h6 : get T 6 = some (.ptr n 0 4 0 0)) (h18 : get T 18 = some (.ptr H0.length 0 1 0 0)) (ks : List Int) (hk : ks.length ≤ 1000) (f : List Item) (hf : f.length ≤ 1000) :
    evRnds (evCode (evC cprog) itLim c11_r0) 66 70 71 21 T (H0 ++ [left f, itBox ks]) (some (.fn 66 [.ptr (H0.length + 1) 0 1 0 0])) = some (.normal, (T, H0 ++ [left (dels x.a f ks), itBox ks])) := by
  unfold evRnds
  simp only
  have hi := intsAt_box H0 (left f) ks hk
  simp only [hi, if_true]
  rw [rnds_left x h n H0 hs T h6 h18 ks hk _ f hf, dels_fold]
  rfl
end Go.Proofs.Ytbchmbddcdionaa.Code

/- logic: Delete, of the program and of the document (they answer the same). -/
set_option linter.unusedSimpArgs false
set_option linter.unusedVariables false
namespace Go.Proofs.Ytbchmbddcdionaa.Code
open Go.Proofs.Ytbchmbddcdionaa.Ev

theorem f39 (ks : List Int) (H : Heap) : cal (evC cprog) false 39 [eIs ks] H = some (.fn 66 [.ptr H.length 0 1 0 0], H ++ [itBox ks]) := by
  rw [cal_of at39]
  have e : (eIs ks).cells = [eIs ks] := rfl
  have e' : (eIs ks).isTup = false := rfl
  simp only [c39, itBox, e, e', evX, Int.reduceEq, Int.reduceLT, Int.reduceLE, Nat.reduceMul, Nat.reduceMod, evW, fn_eq, evR, Nat.reduceAdd, Nat.reduceLT, Nat.reduceLeDiff, reduceIte, Nat.reduceEqDiff, reduceCtorEq, argEnv, eq_self, if_true, if_false]
  repeat' ((first | rw [guardK_cases] | rw [condK_bool] | rw [guardD_cases]); split <;> simp only [c39, itBox, e, e', evX, Int.reduceEq, Int.reduceLT, Int.reduceLE, Nat.reduceMul, Nat.reduceMod, evW, evR, Nat.reduceAdd, Nat.reduceLT, Nat.reduceLeDiff, reduceIte, Nat.reduceEqDiff, reduceCtorEq, argEnv, eq_self, if_true, if_false, *])
  rw [if_neg (by simp [noRef, noRef1, noRef0])]
theorem rnds11 (x : Pr) (h : x.Raw) (H : Heap) (T : Env) (ks : List Int) (hk : ks.length ≤ 1000) (hf : x.f.length ≤ 1000) (h6 : get T 6 = some (.ptr H.length 0 4 0 0)) (h18 : get T 18 = some (.ptr (H.length + 10) 0 1 0 0)) :
    evRnds (evCode (evC cprog) itLim c11_r0) 66 70 71 21 T (H ++ [bBase x.a, bBase x.b, bLink x.l, bBase x.a, bBase x.b, bLink x.l, bBase x.a, bBase x.b, bLink x.l, bPair x, left x.f, itBox ks]) (some (.fn 66 [.ptr (H.length + 11) 0 1 0 0])) =
      some (.normal, (T, H ++ [bBase x.a, bBase x.b, bLink x.l, bBase x.a, bBase x.b, bLink x.l, bBase x.a, bBase x.b, bLink x.l, bPair x, left (dels x.a x.f ks), itBox ks])) := by
  have q := rnds_all x h H.length (H ++ [bBase x.a, bBase x.b, bLink x.l, bBase x.a, bBase x.b, bLink x.l, bBase x.a, bBase x.b, bLink x.l, bPair x]) (.mk (by simp)) T h6 (by simpa using h18) ks hk x.f hf
  simpa using q
theorem dlE_ask {x : Pr} {i : Int} (h : askE x ≠ 0) : dlE x i = askE x := if_neg h
theorem dlL_err {x : Pr} {i : Int} (h : dlE x i ≠ 0) : dlL x i = [] := if_neg h
theorem dlR_err {x : Pr} {i : Int} (h : dlE x i ≠ 0) : dlR x i = [] := if_neg h
theorem frz_lle {H H1 : Heap} (ht : H1.take H.length = H) (l m : List Item) (e : Int) : calK true H (some (.tup [eItems l, eItems m, .int .i64 e], H1)) = some (eLLE l m e, H) := calK_frz (ids := []) rfl rfl ht (by simp)
theorem frz_nne {H H1 : Heap} (ht : H1.take H.length = H) (e : Int) : calK true H (some (.tup [.nils, .nils, .int .i64 e], H1)) = some (eLLE [] [] e, H) := calK_frz (ids := []) rfl rfl ht (by simp)
theorem f11 (x : Pr) (h : x.Raw) (i : Int) (H : Heap) : cal (evC cprog) true 11 [eBase x.a, eBase x.b, eLink x.l, eItems x.f, eItems x.g, .int .i64 i] H = some (eLLE (dlL x i) (dlR x i) (dlE x i), H) := by
  rw [cal_of at11]
  by_cases h0 : askE x = 0
  case neg =>
    have q35 := f35_err x h h0
    simp only [eBase, eLink] at q35
    have e0 := dlE_ask (i := i) h0
    rw [dlL_err (by rw [e0]; exact h0), dlR_err (by rw [e0]; exact h0), e0]
    simp only [c11, eBase, eLink, q35, h0, evX, Int.reduceEq, Int.reduceLT, Int.reduceLE, Nat.reduceMul, Nat.reduceMod, evW, fn_eq, evR, Nat.reduceAdd, Nat.reduceLT, Nat.reduceLeDiff, reduceIte, Nat.reduceEqDiff, reduceCtorEq, argEnv, eq_self, if_true, if_false]
    repeat' ((first | rw [guardK_cases] | rw [condK_bool] | rw [guardD_cases]); split <;> simp only [c11, eBase, eLink, q35, h0, evX, Int.reduceEq, Int.reduceLT, Int.reduceLE, Nat.reduceMul, Nat.reduceMod, evW, evR, Nat.reduceAdd, Nat.reduceLT, Nat.reduceLeDiff, reduceIte, Nat.reduceEqDiff, reduceCtorEq, argEnv, eq_self, if_true, if_false, *])
    refine frz_nne ?_ _
    simp
  obtain ⟨hok, hag⟩ := ask_ok h h0
  obtain ⟨hlf, _⟩ := forest_fits hok.f
  obtain ⟨hlg, _⟩ := forest_fits hok.g
  have q35 := f35_ok x hok hag
  have q36 := f36 x.b h.b x.g h.g i
  by_cases he : errF x.b x.g [i] = 0
  case neg =>
    have e0 : dlE x i = errF x.b x.g [i] := by unfold dlE; rw [if_pos h0, if_neg he]
    rw [dlL_err (by rw [e0]; exact he), dlR_err (by rw [e0]; exact he), e0]
    simp only [eBase, eLink, eLE, bBase, bLink, bPair] at q35 q36
    simp only [c11, eBase, eLink, q35, q36, he, evX, Int.reduceEq, Int.reduceLT, Int.reduceLE, Nat.reduceMul, Nat.reduceMod, evW, fn_eq, evR, Nat.reduceAdd, Nat.reduceLT, Nat.reduceLeDiff, reduceIte, Nat.reduceEqDiff, reduceCtorEq, argEnv, eq_self, if_true, if_false]
    repeat' ((first | rw [guardK_cases] | rw [condK_bool] | rw [guardD_cases]); split <;> simp only [c11, eBase, eLink, q35, q36, he, evX, Int.reduceEq, Int.reduceLT, Int.reduceLE, Nat.reduceMul, Nat.reduceMod, evW, evR, Nat.reduceAdd, Nat.reduceLT, Nat.reduceLeDiff, reduceIte, Nat.reduceEqDiff, reduceCtorEq, argEnv, eq_self, if_true, if_false, *])
    refine frz_nne ?_ _
    simp
  obtain ⟨_, hin⟩ := errF_zero h.b he
  obtain ⟨hi0, hi1⟩ := hin i (by simp)
  obtain ⟨j, rfl⟩ : ∃ j : Nat, i = (j : Int) := ⟨i.toNat, by omega⟩
  obtain ⟨u, hu⟩ : ∃ u, x.g[j]? = some u := ⟨_, List.getElem?_eq_getElem (by omega)⟩
  have ha := aItem hu
  have q37 := f37z x.f (by omega)
  rw [he] at q36
  have ce := cells_eItems' x.f
  have ie := isTup_eItems' x.f
  by_cases ht : u.type = 0
  case neg =>
    have hg : gone x j = [] := by unfold gone; rw [typ_at hu, if_neg ht]
    have e0 : dlE x j = 0 := by unfold dlE; rw [if_pos h0, if_pos he, hg]; simp
    have e1 : dlL x j = x.f := by unfold dlL; rw [if_pos e0, hg]; split <;> rfl
    have e2 : dlR x j = delR x.b x.g j := if_pos e0
    rw [e0, e1, e2]
    simp only [eBase, eLink, eLE, bBase, bLink, bPair] at q35 q36
    simp only [c11, eBase, eLink, q35, q36, q37, ha, rItem, ht, ce, ie, evX, Int.reduceEq, Int.reduceLT, Int.reduceLE, Nat.reduceMul, Nat.reduceMod, evW, fn_eq, evR, Nat.reduceAdd, Nat.reduceLT, Nat.reduceLeDiff, reduceIte, Nat.reduceEqDiff, reduceCtorEq, argEnv, eq_self, if_true, if_false]
    repeat' ((first | rw [guardK_cases] | rw [condK_bool] | rw [guardD_cases]); split <;> simp only [c11, eBase, eLink, q35, q36, q37, ha, rItem, ht, ce, ie, evX, Int.reduceEq, Int.reduceLT, Int.reduceLE, Nat.reduceMul, Nat.reduceMod, evW, evR, Nat.reduceAdd, Nat.reduceLT, Nat.reduceLeDiff, reduceIte, Nat.reduceEqDiff, reduceCtorEq, argEnv, eq_self, if_true, if_false, *])
    refine frz_lle ?_ _ _ _
    simp
  have q38 := f38 x hok j u hu ht (H.length + 9) (H ++ [bBase x.a, bBase x.b, bLink x.l, bBase x.a, bBase x.b, bLink x.l, bBase x.a, bBase x.b, bLink x.l, bPair x, left x.f]) (.mk (by simp))
  have hg : kids x (keyOf (rootTy x.b) u.data) = gone x j := by unfold gone; rw [typ_at hu, if_pos ht, dat_at hu]
  have hkl := gone_len x j
  rw [hg] at q38
  have hlen := (sIs [] (gone x j)).len
  simp only [List.length_map] at hlen
  have q39 := f39 (gone x j)
  have q50 := fun T => rnds11 x h H T (gone x j) (by omega) (by omega)
  simp only [eBase, eLink, eLE, bBase, bLink, bPair, left, itBox, c11_r0, oL, ol, oM, oO, oE, oS, z3] at q35 q36 q38 q39 q50
  by_cases hp0 : x.l.rule = ⟨#[80]⟩
  · have hp : (x.l.rule = ⟨#[80]⟩) = True := eq_true hp0
    by_cases hk : gone x j = []
    · have e0 : dlE x j = 0 := by unfold dlE; rw [if_pos h0, if_pos he, hk]; simp
      have e1 : dlL x j = x.f := by unfold dlL; rw [if_pos e0, hk]; split <;> rfl
      have e2 : dlR x j = delR x.b x.g j := if_pos e0
      rw [e0, e1, e2]
      rw [hk] at hlen q38
      simp only [List.length_nil, Int.natCast_zero] at hlen
      have hv : (x.l.rule = ⟨#[86]⟩) = False := eq_false (by rw [hp0]; simp)
      simp only [c11, eBase, eLink, q35, q36, q37, q38, hlen, ha, rItem, ht, ce, ie, hp, hv, evX, Int.reduceEq, Int.reduceLT, Int.reduceLE, Nat.reduceMul, Nat.reduceMod, evW, fn_eq, evR, Nat.reduceAdd, Nat.reduceLT, Nat.reduceLeDiff, reduceIte, Nat.reduceEqDiff, reduceCtorEq, argEnv, eq_self, if_true, if_false]
      repeat' ((first | rw [guardK_cases] | rw [condK_bool] | rw [guardD_cases]); split <;> simp only [c11, eBase, eLink, q35, q36, q37, q38, hlen, ha, rItem, ht, ce, ie, hp, hv, evX, Int.reduceEq, Int.reduceLT, Int.reduceLE, Nat.reduceMul, Nat.reduceMod, evW, evR, Nat.reduceAdd, Nat.reduceLT, Nat.reduceLeDiff, reduceIte, Nat.reduceEqDiff, reduceCtorEq, argEnv, eq_self, if_true, if_false, *])
      refine frz_lle ?_ _ _ _
      simp
    · have e0 : dlE x j = 181 := by unfold dlE; rw [if_pos h0, if_pos he, if_pos (by simp [hp0, hk])]
      rw [dlL_err (by rw [e0]; omega), dlR_err (by rw [e0]; omega), e0]
      have hpos : (0 : Int) < ((gone x j).length : Int) := by have := List.length_pos_iff.2 hk; omega
      simp only [c11, eBase, eLink, q35, q36, q37, q38, hlen, ha, rItem, ht, ce, ie, hp, hpos, evX, Int.reduceEq, Int.reduceLT, Int.reduceLE, Nat.reduceMul, Nat.reduceMod, evW, fn_eq, evR, Nat.reduceAdd, Nat.reduceLT, Nat.reduceLeDiff, reduceIte, Nat.reduceEqDiff, reduceCtorEq, argEnv, eq_self, if_true, if_false]
      repeat' ((first | rw [guardK_cases] | rw [condK_bool] | rw [guardD_cases]); split <;> simp only [c11, eBase, eLink, q35, q36, q37, q38, hlen, ha, rItem, ht, ce, ie, hp, hpos, evX, Int.reduceEq, Int.reduceLT, Int.reduceLE, Nat.reduceMul, Nat.reduceMod, evW, evR, Nat.reduceAdd, Nat.reduceLT, Nat.reduceLeDiff, reduceIte, Nat.reduceEqDiff, reduceCtorEq, argEnv, eq_self, if_true, if_false, *])
      refine frz_nne ?_ _
      simp
  · have e0 : dlE x j = 0 := by unfold dlE; rw [if_pos h0, if_pos he, if_neg (by simp [hp0])]
    have hp : (x.l.rule = ⟨#[80]⟩) = False := eq_false hp0
    have e2 : dlR x j = delR x.b x.g j := if_pos e0
    rw [e0, e2]
    by_cases hv0 : x.l.rule = ⟨#[86]⟩
    · have hv : (x.l.rule = ⟨#[86]⟩) = True := eq_true hv0
      have e1 : dlL x j = dels x.a x.f (gone x j) := by unfold dlL; rw [if_pos e0, if_pos hv0]
      rw [e1]
      by_cases hpos : (0 : Int) < ((gone x j).length : Int)
      · simp only [c11, eBase, eLink, q35, q36, q37, q38, q39, q50, hlen, ha, rItem, ht, ce, ie, hp, hv, hpos, evX, Int.reduceEq, Int.reduceLT, Int.reduceLE, Nat.reduceMul, Nat.reduceMod, evW, fn_eq, evR, Nat.reduceAdd, Nat.reduceLT, Nat.reduceLeDiff, reduceIte, Nat.reduceEqDiff, reduceCtorEq, argEnv, eq_self, if_true, if_false]
        repeat' ((first | rw [guardK_cases] | rw [condK_bool] | rw [guardD_cases]); split <;> simp only [c11, eBase, eLink, q35, q36, q37, q38, q39, q50, hlen, ha, rItem, ht, ce, ie, hp, hv, hpos, evX, Int.reduceEq, Int.reduceLT, Int.reduceLE, Nat.reduceMul, Nat.reduceMod, evW, evR, Nat.reduceAdd, Nat.reduceLT, Nat.reduceLeDiff, reduceIte, Nat.reduceEqDiff, reduceCtorEq, argEnv, eq_self, if_true, if_false, *])
        refine frz_lle ?_ _ _ _
        simp
      · simp only [c11, eBase, eLink, q35, q36, q37, q38, q39, q50, hlen, ha, rItem, ht, ce, ie, hp, hv, hpos, evX, Int.reduceEq, Int.reduceLT, Int.reduceLE, Nat.reduceMul, Nat.reduceMod, evW, fn_eq, evR, Nat.reduceAdd, Nat.reduceLT, Nat.reduceLeDiff, reduceIte, Nat.reduceEqDiff, reduceCtorEq, argEnv, eq_self, if_true, if_false]
        repeat' ((first | rw [guardK_cases] | rw [condK_bool] | rw [guardD_cases]); split <;> simp only [c11, eBase, eLink, q35, q36, q37, q38, q39, q50, hlen, ha, rItem, ht, ce, ie, hp, hv, hpos, evX, Int.reduceEq, Int.reduceLT, Int.reduceLE, Nat.reduceMul, Nat.reduceMod, evW, evR, Nat.reduceAdd, Nat.reduceLT, Nat.reduceLeDiff, reduceIte, Nat.reduceEqDiff, reduceCtorEq, argEnv, eq_self, if_true, if_false, *])
        refine frz_lle ?_ _ _ _
        simp
    · have hv : (x.l.rule = ⟨#[86]⟩) = False := eq_false hv0
      have e1 : dlL x j = x.f := by unfold dlL; rw [if_pos e0, if_neg hv0]
      rw [e1]
      by_cases hpos : (0 : Int) < ((gone x j).length : Int)
      · simp only [c11, eBase, eLink, q35, q36, q37, q38, q39, hlen, ha, rItem, ht, ce, ie, hp, hv, hpos, evX, Int.reduceEq, Int.reduceLT, Int.reduceLE, Nat.reduceMul, Nat.reduceMod, evW, fn_eq, evR, Nat.reduceAdd, Nat.reduceLT, Nat.reduceLeDiff, reduceIte, Nat.reduceEqDiff, reduceCtorEq, argEnv, eq_self, if_true, if_false]
        repeat' ((first | rw [guardK_cases] | rw [condK_bool] | rw [guardD_cases]); split <;> simp only [c11, eBase, eLink, q35, q36, q37, q38, q39, hlen, ha, rItem, ht, ce, ie, hp, hv, hpos, evX, Int.reduceEq, Int.reduceLT, Int.reduceLE, Nat.reduceMul, Nat.reduceMod, evW, evR, Nat.reduceAdd, Nat.reduceLT, Nat.reduceLeDiff, reduceIte, Nat.reduceEqDiff, reduceCtorEq, argEnv, eq_self, if_true, if_false, *])
        refine frz_lle ?_ _ _ _
        simp
      · simp only [c11, eBase, eLink, q35, q36, q37, q38, q39, hlen, ha, rItem, ht, ce, ie, hp, hv, hpos, evX, Int.reduceEq, Int.reduceLT, Int.reduceLE, Nat.reduceMul, Nat.reduceMod, evW, fn_eq, evR, Nat.reduceAdd, Nat.reduceLT, Nat.reduceLeDiff, reduceIte, Nat.reduceEqDiff, reduceCtorEq, argEnv, eq_self, if_true, if_false]
        repeat' ((first | rw [guardK_cases] | rw [condK_bool] | rw [guardD_cases]); split <;> simp only [c11, eBase, eLink, q35, q36, q37, q38, q39, hlen, ha, rItem, ht, ce, ie, hp, hv, hpos, evX, Int.reduceEq, Int.reduceLT, Int.reduceLE, Nat.reduceMul, Nat.reduceMod, evW, evR, Nat.reduceAdd, Nat.reduceLT, Nat.reduceLeDiff, reduceIte, Nat.reduceEqDiff, reduceCtorEq, argEnv, eq_self, if_true, if_false, *])
        refine frz_lle ?_ _ _ _
        simp
/-- the loop of the document's Delete -/
theorem l12 (x : Pr) (h : x.Raw) (hlf : x.f.length ≤ 1000) (i : Int) (H : Heap) (av : AV) (ks : List Int) (hk : ks.length ≤ 1000) (hav : ∀ (m : Nat) (z : Int), ks[m]? = some z → iaddrK 1 (some av) (some (.int .i64 (m : Int))) = some (.fptr (rI z))) (st : St)
    (hE : keepEnv st.1 [4, 5, 6, 7, 8, 16, 17, 18] = [(4, eItems x.g), (5, .int .i64 i), (6, .ptr H.length 0 4 0 0), (7, .ptr (H.length + 1) 0 4 0 0), (8, .ptr (H.length + 2) 0 3 0 0), (16, av), (17, eItems x.f), (18, .int .i64 ((ks.length : Int) - 1))])
    (hH : st.2 = H ++ [bBase x.a, bBase x.b, bLink x.l]) (z : Option (CX × St)) (hz : itLim (evCode (evC cprog) itLim c12_l0) st = z) :
    ∃ T, z = some (.exit 0, T, H ++ [bBase x.a, bBase x.b, bLink x.l]) ∧ keepEnv T [4, 5, 7, 17] = [(4, eItems x.g), (5, .int .i64 i), (7, .ptr (H.length + 1) 0 4 0 0), (17, eItems (if x.l.rule = ⟨#[86]⟩ then dels x.a x.f ks else x.f))] := by
  have L := loop_rule (σ := Nat) (m := [4, 5, 6, 7, 8, 16, 17, 18]) (env := fun m => [(4, eItems x.g), (5, .int .i64 i), (6, .ptr H.length 0 4 0 0), (7, .ptr (H.length + 1) 0 4 0 0), (8, .ptr (H.length + 2) 0 3 0 0), (16, av), (17, eItems (dels x.a x.f (ks.drop m))), (18, .int .i64 ((m : Int) - 1))])
    (hp := fun _ => H ++ [bBase x.a, bBase x.b, bLink x.l])
    (P := fun _ r => ∃ T, r = (.exit 0, T, H ++ [bBase x.a, bBase x.b, bLink x.l]) ∧ keepEnv T [4, 5, 7, 17] = [(4, eItems x.g), (5, .int .i64 i), (7, .ptr (H.length + 1) 0 4 0 0), (17, eItems (if x.l.rule = ⟨#[86]⟩ then dels x.a x.f ks else x.f))])
    (mu := fun m => m) (I := fun m => m ≤ ks.length ∧ (x.l.rule ≠ ⟨#[86]⟩ → m = ks.length))
    (evCode (evC cprog) itLim c12_l0) ?_ ks.length st ⟨Nat.le_refl _, fun _ => rfl⟩ (by rw [hE, List.drop_length]; rfl) hH z hz
  · obtain ⟨_, rfl, T, rfl, h⟩ := L
    exact ⟨T, rfl, h⟩
  · intro m ⟨hm, hr⟩ E hE
    cases m with
    | zero =>
      rw [show (((0 : Nat) : Int) - 1) = -1 from rfl] at hE
      have hd : (if x.l.rule = ⟨#[86]⟩ then dels x.a x.f ks else x.f) = dels x.a x.f (ks.drop 0) := by
        split
        · rfl
        · rename_i hv
          have := hr hv
          rw [List.eq_nil_of_length_eq_zero this.symm]; rfl
      rw [hd]
      simp only [c12_l0, hE, bBase, bLink, evX, Int.reduceEq, Int.reduceLT, Int.reduceLE, Nat.reduceMul, Nat.reduceMod, evW, fn_eq, evR, Nat.reduceAdd, Nat.reduceLT, Nat.reduceLeDiff, reduceIte, Nat.reduceEqDiff, reduceCtorEq, argEnv, eq_self, if_true, if_false]
      repeat' ((first | rw [guardK_cases] | rw [condK_bool] | rw [guardD_cases]); split <;> simp only [c12_l0, hE, bBase, bLink, evX, Int.reduceEq, Int.reduceLT, Int.reduceLE, Nat.reduceMul, Nat.reduceMod, evW, evR, Nat.reduceAdd, Nat.reduceLT, Nat.reduceLeDiff, reduceIte, Nat.reduceEqDiff, reduceCtorEq, argEnv, eq_self, if_true, if_false, *])
      exact q_exit ⟨_, rfl, rfl⟩
    | succ m =>
      rw [show (((m + 1 : Nat) : Int) - 1) = (m : Int) by omega] at hE
      have h0 : (0 : Int) ≤ (m : Int) := by omega
      by_cases hv0 : x.l.rule = ⟨#[86]⟩
      · have hv : (x.l.rule = ⟨#[86]⟩) = True := eq_true hv0
        obtain ⟨z, hz⟩ : ∃ z, ks[m]? = some z := ⟨_, List.getElem?_eq_getElem (by omega)⟩
        have hdr : ks.drop m = z :: ks.drop (m + 1) := by
          obtain ⟨h1, h2⟩ := List.getElem?_eq_some_iff.1 hz
          rw [List.drop_eq_getElem_cons h1, h2]
        have hdl : dels x.a x.f (ks.drop m) = delR x.a (dels x.a x.f (ks.drop (m + 1))) z := by rw [hdr]; rfl
        have hln := dels_len x.a h.a x.f (ks.drop (m + 1))
        have q41 := f41 x.a h.a (dels x.a x.f (ks.drop (m + 1))) (by omega) z
        have ha := hav m z hz
        have hw := wrapD (a := (m : Int)) (b := 1) (by omega) (by omega) (by omega) (by omega)
        simp only [eBase, eLE] at q41
        simp only [rI] at ha
        simp only [c12_l0, hE, bBase, bLink, hv, h0, q41, ha, hw, evX, Int.reduceEq, Int.reduceLT, Int.reduceLE, Nat.reduceMul, Nat.reduceMod, evW, fn_eq, evR, Nat.reduceAdd, Nat.reduceLT, Nat.reduceLeDiff, reduceIte, Nat.reduceEqDiff, reduceCtorEq, argEnv, eq_self, if_true, if_false]
        repeat' ((first | rw [guardK_cases] | rw [condK_bool] | rw [guardD_cases]); split <;> simp only [c12_l0, hE, bBase, bLink, hv, h0, q41, ha, hw, evX, Int.reduceEq, Int.reduceLT, Int.reduceLE, Nat.reduceMul, Nat.reduceMod, evW, evR, Nat.reduceAdd, Nat.reduceLT, Nat.reduceLeDiff, reduceIte, Nat.reduceEqDiff, reduceCtorEq, argEnv, eq_self, if_true, if_false, *])
        refine q_next m (by rw [hdl]; rfl) rfl ⟨by omega, fun hv' => absurd hv0 hv'⟩ (by show m < m + 1; omega) fun r h => h
      · have hv : (x.l.rule = ⟨#[86]⟩) = False := eq_false hv0
        have hml := hr hv0
        have hd : (if x.l.rule = ⟨#[86]⟩ then dels x.a x.f ks else x.f) = dels x.a x.f (ks.drop (m + 1)) := by rw [if_neg hv0, hml, List.drop_length]; rfl
        rw [hd]
        simp only [c12_l0, hE, bBase, bLink, hv, h0, evX, Int.reduceEq, Int.reduceLT, Int.reduceLE, Nat.reduceMul, Nat.reduceMod, evW, fn_eq, evR, Nat.reduceAdd, Nat.reduceLT, Nat.reduceLeDiff, reduceIte, Nat.reduceEqDiff, reduceCtorEq, argEnv, eq_self, if_true, if_false]
        repeat' ((first | rw [guardK_cases] | rw [condK_bool] | rw [guardD_cases]); split <;> simp only [c12_l0, hE, bBase, bLink, hv, h0, evX, Int.reduceEq, Int.reduceLT, Int.reduceLE, Nat.reduceMul, Nat.reduceMod, evW, evR, Nat.reduceAdd, Nat.reduceLT, Nat.reduceLeDiff, reduceIte, Nat.reduceEqDiff, reduceCtorEq, argEnv, eq_self, if_true, if_false, *])
        exact q_exit ⟨_, rfl, rfl⟩
theorem errF_out {b : Base} {f : List Item} (hr : Right b f) (i : Int) (h : ¬ (0 ≤ i ∧ i < (f.length : Int))) : errF b f [i] = 2 := by
  unfold errF
  rw [if_pos hr.valid, if_pos hr.forest, if_pos]
  simp only [List.any_cons, List.any_nil, Bool.or_false, outOf, Bool.or_eq_true, decide_eq_true_eq]
  omega
theorem errF_in {b : Base} {f : List Item} (hr : Right b f) (i : Int) (h : 0 ≤ i ∧ i < (f.length : Int)) : errF b f [i] = 0 := by
  unfold errF
  rw [if_pos hr.valid, if_pos hr.forest, if_neg]
  simp only [List.any_cons, List.any_nil, Bool.or_false, outOf, Bool.or_eq_true, decide_eq_true_eq]
  omega
theorem f12 (x : Pr) (h : x.Raw) (i : Int) (H : Heap) : cal (evC cprog) true 12 [eBase x.a, eBase x.b, eLink x.l, eItems x.f, eItems x.g, .int .i64 i] H = some (eLLE (dlL x i) (dlR x i) (dlE x i), H) := by
  rw [cal_of at12]
  have q18 := f18 x h
  have hlen := (sItems [] x.g).len
  simp only [List.length_map] at hlen
  by_cases h0 : askE x = 0
  case neg =>
    simp only [eBase, eLink] at q18
    have e0 := dlE_ask (i := i) h0
    rw [dlL_err (by rw [e0]; exact h0), dlR_err (by rw [e0]; exact h0), e0]
    simp only [c12, eBase, eLink, q18, h0, evX, Int.reduceEq, Int.reduceLT, Int.reduceLE, Nat.reduceMul, Nat.reduceMod, evW, fn_eq, evR, Nat.reduceAdd, Nat.reduceLT, Nat.reduceLeDiff, reduceIte, Nat.reduceEqDiff, reduceCtorEq, argEnv, eq_self, if_true, if_false]
    repeat' ((first | rw [guardK_cases] | rw [condK_bool] | rw [guardD_cases]); split <;> simp only [c12, eBase, eLink, q18, h0, evX, Int.reduceEq, Int.reduceLT, Int.reduceLE, Nat.reduceMul, Nat.reduceMod, evW, evR, Nat.reduceAdd, Nat.reduceLT, Nat.reduceLeDiff, reduceIte, Nat.reduceEqDiff, reduceCtorEq, argEnv, eq_self, if_true, if_false, *])
    refine frz_nne ?_ _
    simp
  rw [h0] at q18
  obtain ⟨hok, hag⟩ := ask_ok h h0
  obtain ⟨hlf, _⟩ := forest_fits hok.f
  obtain ⟨hlg, _⟩ := forest_fits hok.g
  by_cases hin : 0 ≤ i ∧ i < (x.g.length : Int)
  case neg =>
    have he := errF_out hok.rg i hin
    have e0 : dlE x i = 2 := by unfold dlE; rw [if_pos h0, if_neg (by rw [he]; omega), he]
    rw [dlL_err (by rw [e0]; omega), dlR_err (by rw [e0]; omega), e0]
    simp only [eBase, eLink] at q18
    by_cases k0 : i < 0
    · simp only [c12, eBase, eLink, q18, hlen, k0, evX, Int.reduceEq, Int.reduceLT, Int.reduceLE, Nat.reduceMul, Nat.reduceMod, evW, fn_eq, evR, Nat.reduceAdd, Nat.reduceLT, Nat.reduceLeDiff, reduceIte, Nat.reduceEqDiff, reduceCtorEq, argEnv, eq_self, if_true, if_false]
      repeat' ((first | rw [guardK_cases] | rw [condK_bool] | rw [guardD_cases]); split <;> simp only [c12, eBase, eLink, q18, hlen, k0, evX, Int.reduceEq, Int.reduceLT, Int.reduceLE, Nat.reduceMul, Nat.reduceMod, evW, evR, Nat.reduceAdd, Nat.reduceLT, Nat.reduceLeDiff, reduceIte, Nat.reduceEqDiff, reduceCtorEq, argEnv, eq_self, if_true, if_false, *])
      refine frz_nne ?_ _
      simp
    · have k1 : (x.g.length : Int) ≤ i := by omega
      simp only [c12, eBase, eLink, q18, hlen, k0, k1, evX, Int.reduceEq, Int.reduceLT, Int.reduceLE, Nat.reduceMul, Nat.reduceMod, evW, fn_eq, evR, Nat.reduceAdd, Nat.reduceLT, Nat.reduceLeDiff, reduceIte, Nat.reduceEqDiff, reduceCtorEq, argEnv, eq_self, if_true, if_false]
      repeat' ((first | rw [guardK_cases] | rw [condK_bool] | rw [guardD_cases]); split <;> simp only [c12, eBase, eLink, q18, hlen, k0, k1, evX, Int.reduceEq, Int.reduceLT, Int.reduceLE, Nat.reduceMul, Nat.reduceMod, evW, evR, Nat.reduceAdd, Nat.reduceLT, Nat.reduceLeDiff, reduceIte, Nat.reduceEqDiff, reduceCtorEq, argEnv, eq_self, if_true, if_false, *])
      refine frz_nne ?_ _
      simp
  have he := errF_in hok.rg i hin
  obtain ⟨j, rfl⟩ : ∃ j : Nat, i = (j : Int) := ⟨i.toNat, by omega⟩
  obtain ⟨u, hu⟩ : ∃ u, x.g[j]? = some u := ⟨_, List.getElem?_eq_getElem (by omega)⟩
  have ha := aItem hu
  have hfa := fapp_items (l := x.f) (by omega)
  have q41 := f41 x.b h.b x.g h.g j
  rw [he] at q41
  have k0 : ¬ (j : Int) < 0 := by omega
  have k1 : ¬ (x.g.length : Int) ≤ (j : Int) := by omega
  have hkl := gone_len x j
  have hlk := (sIs [] (gone x j)).len
  simp only [List.length_map] at hlk
  have hww := IntWalk.i64_in (((gone x j).length : Int) - 1) ⟨by omega, by omega⟩
  by_cases ht : u.type = 0
  case neg =>
    have hg : gone x j = [] := by unfold gone; rw [typ_at hu, if_neg ht]
    have e0 : dlE x j = 0 := by unfold dlE; rw [if_pos h0, if_pos he, hg]; simp
    have e1 : dlL x j = x.f := by unfold dlL; rw [if_pos e0, hg]; split <;> rfl
    have e2 : dlR x j = delR x.b x.g j := if_pos e0
    rw [e0, e1, e2]
    have key := fun st => l12 x h (by omega) j H .nils [] (by simp) (fun m z hz => by simp at hz) st
    simp only [eBase, eLink, eLE, bBase, bLink] at q18 q41 key
    simp only [c12, eBase, eLink, q18, hlen, k0, k1, ha, rItem, ht, hfa, evX, Int.reduceEq, Int.reduceLT, Int.reduceLE, Nat.reduceMul, Nat.reduceMod, evW, fn_eq, evR, Nat.reduceAdd, Nat.reduceLT, Nat.reduceLeDiff, reduceIte, Nat.reduceEqDiff, reduceCtorEq, argEnv, eq_self, if_true, if_false]
    repeat' ((first | rw [guardK_cases] | rw [condK_bool] | rw [guardD_cases]); split <;> simp only [c12, eBase, eLink, q18, hlen, k0, k1, ha, rItem, ht, hfa, evX, Int.reduceEq, Int.reduceLT, Int.reduceLE, Nat.reduceMul, Nat.reduceMod, evW, evR, Nat.reduceAdd, Nat.reduceLT, Nat.reduceLeDiff, reduceIte, Nat.reduceEqDiff, reduceCtorEq, argEnv, eq_self, if_true, if_false, *])
    generalize hz : itLim _ _ = z
    obtain ⟨T, rfl, hT⟩ := key _ rfl rfl z hz
    rw [show (if x.l.rule = ⟨#[86]⟩ then dels x.a x.f [] else x.f) = x.f by split <;> rfl] at hT
    simp only [hT, q41, evX, Int.reduceEq, Int.reduceLT, Int.reduceLE, Nat.reduceMul, Nat.reduceMod, evW, fn_eq, evR, Nat.reduceAdd, Nat.reduceLT, Nat.reduceLeDiff, reduceIte, Nat.reduceEqDiff, reduceCtorEq, argEnv, eq_self, if_true, if_false]
    repeat' ((first | rw [guardK_cases] | rw [condK_bool] | rw [guardD_cases]); split <;> simp only [hT, q41, evX, Int.reduceEq, Int.reduceLT, Int.reduceLE, Nat.reduceMul, Nat.reduceMod, evW, evR, Nat.reduceAdd, Nat.reduceLT, Nat.reduceLeDiff, reduceIte, Nat.reduceEqDiff, reduceCtorEq, argEnv, eq_self, if_true, if_false, *])
    refine frz_lle ?_ _ _ _
    simp
  have q40 := f40 x hok j u hu ht
  have hg : kids x (keyOf (rootTy x.b) u.data) = gone x j := by unfold gone; rw [typ_at hu, if_pos ht, dat_at hu]
  rw [hg] at q40
  by_cases hpk : x.l.rule = ⟨#[80]⟩ ∧ gone x j ≠ []
  · obtain ⟨hp0, hk⟩ := hpk
    have hp : (x.l.rule = ⟨#[80]⟩) = True := eq_true hp0
    have e0 : dlE x j = 181 := by unfold dlE; rw [if_pos h0, if_pos he, if_pos (by simp [hp0, hk])]
    rw [dlL_err (by rw [e0]; omega), dlR_err (by rw [e0]; omega), e0]
    have hpos : (0 : Int) < ((gone x j).length : Int) := by have := List.length_pos_iff.2 hk; omega
    simp only [eBase, eLink] at q18 q40
    simp only [c12, eBase, eLink, q18, q40, hlen, hlk, k0, k1, ha, rItem, ht, hp, hpos, evX, Int.reduceEq, Int.reduceLT, Int.reduceLE, Nat.reduceMul, Nat.reduceMod, evW, fn_eq, evR, Nat.reduceAdd, Nat.reduceLT, Nat.reduceLeDiff, reduceIte, Nat.reduceEqDiff, reduceCtorEq, argEnv, eq_self, if_true, if_false]
    repeat' ((first | rw [guardK_cases] | rw [condK_bool] | rw [guardD_cases]); split <;> simp only [c12, eBase, eLink, q18, q40, hlen, hlk, k0, k1, ha, rItem, ht, hp, hpos, evX, Int.reduceEq, Int.reduceLT, Int.reduceLE, Nat.reduceMul, Nat.reduceMod, evW, evR, Nat.reduceAdd, Nat.reduceLT, Nat.reduceLeDiff, reduceIte, Nat.reduceEqDiff, reduceCtorEq, argEnv, eq_self, if_true, if_false, *])
    refine frz_nne ?_ _
    simp
  · have e0 : dlE x j = 0 := by
      unfold dlE; rw [if_pos h0, if_pos he, if_neg]
      simp only [Bool.and_eq_true, decide_eq_true_eq]; exact hpk
    have e1 : dlL x j = if x.l.rule = ⟨#[86]⟩ then dels x.a x.f (gone x j) else x.f := if_pos e0
    have e2 : dlR x j = delR x.b x.g j := if_pos e0
    rw [e0, e1, e2]
    have key := fun st => l12 x h (by omega) j H (eIs (gone x j)) (gone x j) (by omega) (fun m z hz => aI hz) st
    simp only [eBase, eLink, eLE, bBase, bLink] at q18 q40 q41 key
    by_cases hp0 : x.l.rule = ⟨#[80]⟩
    · have hp : (x.l.rule = ⟨#[80]⟩) = True := eq_true hp0
      have hk : gone x j = [] := by
        cases hk : gone x j with
        | nil => rfl
        | cons a l => exact absurd ⟨hp0, by rw [hk]; simp⟩ hpk
      rw [hk] at q40 key hlk
      simp only [List.length_nil, Int.natCast_zero] at hlk key
      rw [hk]
      simp only [c12, eBase, eLink, q18, q40, hlen, hlk, k0, k1, ha, rItem, ht, hp, hfa, evX, Int.reduceEq, Int.reduceLT, Int.reduceLE, Nat.reduceMul, Nat.reduceMod, evW, fn_eq, evR, Nat.reduceAdd, Nat.reduceLT, Nat.reduceLeDiff, reduceIte, Nat.reduceEqDiff, reduceCtorEq, argEnv, eq_self, if_true, if_false]
      repeat' ((first | rw [guardK_cases] | rw [condK_bool] | rw [guardD_cases]); split <;> simp only [c12, eBase, eLink, q18, q40, hlen, hlk, k0, k1, ha, rItem, ht, hp, hfa, evX, Int.reduceEq, Int.reduceLT, Int.reduceLE, Nat.reduceMul, Nat.reduceMod, evW, evR, Nat.reduceAdd, Nat.reduceLT, Nat.reduceLeDiff, reduceIte, Nat.reduceEqDiff, reduceCtorEq, argEnv, eq_self, if_true, if_false, *])
      generalize hz : itLim _ _ = z
      obtain ⟨T, rfl, hT⟩ := key _ rfl rfl z hz
      rw [show (if x.l.rule = ⟨#[86]⟩ then dels x.a x.f [] else x.f) = x.f by split <;> rfl] at hT
      rw [show (if x.l.rule = ⟨#[86]⟩ then dels x.a x.f [] else x.f) = x.f by split <;> rfl]
      simp only [hT, q41, evX, Int.reduceEq, Int.reduceLT, Int.reduceLE, Nat.reduceMul, Nat.reduceMod, evW, fn_eq, evR, Nat.reduceAdd, Nat.reduceLT, Nat.reduceLeDiff, reduceIte, Nat.reduceEqDiff, reduceCtorEq, argEnv, eq_self, if_true, if_false]
      repeat' ((first | rw [guardK_cases] | rw [condK_bool] | rw [guardD_cases]); split <;> simp only [hT, q41, evX, Int.reduceEq, Int.reduceLT, Int.reduceLE, Nat.reduceMul, Nat.reduceMod, evW, evR, Nat.reduceAdd, Nat.reduceLT, Nat.reduceLeDiff, reduceIte, Nat.reduceEqDiff, reduceCtorEq, argEnv, eq_self, if_true, if_false, *])
      refine frz_lle ?_ _ _ _
      simp
    · have hp : (x.l.rule = ⟨#[80]⟩) = False := eq_false hp0
      simp only [c12, eBase, eLink, q18, q40, hlen, hlk, k0, k1, ha, rItem, ht, hp, hfa, hww, evX, Int.reduceEq, Int.reduceLT, Int.reduceLE, Nat.reduceMul, Nat.reduceMod, evW, fn_eq, evR, Nat.reduceAdd, Nat.reduceLT, Nat.reduceLeDiff, reduceIte, Nat.reduceEqDiff, reduceCtorEq, argEnv, eq_self, if_true, if_false]
      repeat' ((first | rw [guardK_cases] | rw [condK_bool] | rw [guardD_cases]); split <;> simp only [c12, eBase, eLink, q18, q40, hlen, hlk, k0, k1, ha, rItem, ht, hp, hfa, hww, evX, Int.reduceEq, Int.reduceLT, Int.reduceLE, Nat.reduceMul, Nat.reduceMod, evW, evR, Nat.reduceAdd, Nat.reduceLT, Nat.reduceLeDiff, reduceIte, Nat.reduceEqDiff, reduceCtorEq, argEnv, eq_self, if_true, if_false, *])
      generalize hz : itLim _ _ = z
      obtain ⟨T, rfl, hT⟩ := key _ rfl rfl z hz
      simp only [hT, q41, evX, Int.reduceEq, Int.reduceLT, Int.reduceLE, Nat.reduceMul, Nat.reduceMod, evW, fn_eq, evR, Nat.reduceAdd, Nat.reduceLT, Nat.reduceLeDiff, reduceIte, Nat.reduceEqDiff, reduceCtorEq, argEnv, eq_self, if_true, if_false]
      repeat' ((first | rw [guardK_cases] | rw [condK_bool] | rw [guardD_cases]); split <;> simp only [hT, q41, evX, Int.reduceEq, Int.reduceLT, Int.reduceLE, Nat.reduceMul, Nat.reduceMod, evW, evR, Nat.reduceAdd, Nat.reduceLT, Nat.reduceLeDiff, reduceIte, Nat.reduceEqDiff, reduceCtorEq, argEnv, eq_self, if_true, if_false, *])
      refine frz_lle ?_ _ _ _
      simp
end Go.Proofs.Ytbchmbddcdionaa.Code

/- The law LogicDeletes is true. -/
set_option linter.unusedSimpArgs false
set_option linter.unusedVariables false
namespace Go.Proofs.Ytbchmbddcdionaa.Code
open Go.Proofs.Ytbchmbddcdionaa.Ev

theorem dlL_len (x : Pr) (h : x.Raw) (i : Int) : (dlL x i).length ≤ x.f.length := by
  unfold dlL
  split
  · split
    · exact dels_len _ h.a _ _
    · exact Nat.le_refl _
  · simp
theorem dlR_len (x : Pr) (h : x.Raw) (i : Int) : (dlR x i).length ≤ x.g.length := by
  unfold dlR
  split
  · exact delR_len _ h.b _ _
  · simp
theorem f3 (x : Pr) (h : x.Raw) (i : Int) : ∃ H', evC cprog 3 [eTwo x, .int .i64 i] [] = some (.bool true, H') := by
  obtain ⟨s, q9, _⟩ := f9 x h (([] : Heap) ++ [⟨0, true, 30, 13, [[.str x.a.name, .int .i64 x.a.kind, eTys x.a.types, eSes x.a.indexes, .str x.b.name, .int .i64 x.b.kind, eTys x.b.types, eSes x.b.indexes, .int .i64 x.l.child, .int .i64 x.l.field, .str x.l.rule, eItems x.f, eItems x.g]]⟩])
  have q10 := f10
  have q11 := f11 x h i
  have q12 := f12 x h i
  have s1 : same (dlL x i) (dlL x i) = true := tell_pos rfl
  have s2 : same (dlR x i) (dlR x i) = true := tell_pos rfl
  have l1 := dlL_len x h i
  have l2 := dlR_len x h i
  have hf := h.f
  have hg := h.g
  have q13a := f13 (dlL x i) (dlL x i) (by omega)
  have q13b := f13 (dlR x i) (dlR x i) (by omega)
  rw [s1] at q13a
  rw [s2] at q13b
  simp only [eBase, eLink, eTwo, eLLE, List.nil_append] at q9 q11 q12
  rw [evC_fn at3]
  cases s with
  | false =>
    simp only [c3, eTwo, q9, q10, evX, Int.reduceEq, Int.reduceLT, Int.reduceLE, Nat.reduceMul, Nat.reduceMod, evW, fn_eq, evR, Nat.reduceAdd, Nat.reduceLT, Nat.reduceLeDiff, reduceIte, Nat.reduceEqDiff, reduceCtorEq, argEnv, eq_self, if_true, if_false]
    repeat' ((first | rw [guardK_cases] | rw [condK_bool] | rw [guardD_cases]); split <;> simp only [c3, eTwo, q9, q10, evX, Int.reduceEq, Int.reduceLT, Int.reduceLE, Nat.reduceMul, Nat.reduceMod, evW, evR, Nat.reduceAdd, Nat.reduceLT, Nat.reduceLeDiff, reduceIte, Nat.reduceEqDiff, reduceCtorEq, argEnv, eq_self, if_true, if_false, *])
    all_goals exact ⟨_, rfl⟩
  | true =>
    simp only [c3, eTwo, q9, q10, q11, q12, q13a, q13b, evX, Int.reduceEq, Int.reduceLT, Int.reduceLE, Nat.reduceMul, Nat.reduceMod, evW, fn_eq, evR, Nat.reduceAdd, Nat.reduceLT, Nat.reduceLeDiff, reduceIte, Nat.reduceEqDiff, reduceCtorEq, argEnv, eq_self, if_true, if_false]
    repeat' ((first | rw [guardK_cases] | rw [condK_bool] | rw [guardD_cases]); split <;> simp only [c3, eTwo, q9, q10, q11, q12, q13a, q13b, evX, Int.reduceEq, Int.reduceLT, Int.reduceLE, Nat.reduceMul, Nat.reduceMod, evW, evR, Nat.reduceAdd, Nat.reduceLT, Nat.reduceLeDiff, reduceIte, Nat.reduceEqDiff, reduceCtorEq, argEnv, eq_self, if_true, if_false, *])
    all_goals exact ⟨_, rfl⟩
theorem open_N {a : AV} (h : ArgTy false [.int .i64] a) : ∃ n : Int, a = .int .i64 n := by
  have h : HasL [.int .i64] [a] := h
  simp only [HasL.eq_2, HasL.eq_1, Has] at h
  obtain ⟨x, xs, e, ⟨n, rfl, _⟩, rfl⟩ := h
  simp only [List.cons.injEq, and_true] at e
  exact ⟨n, e⟩
end Go.Proofs.Ytbchmbddcdionaa.Code
namespace Go.Proofs.Ytbchmbddcdionaa.Pure
open Go.Proofs.Ytbchmbddcdionaa.Ev Go.Proofs.Ytbchmbddcdionaa.Code
theorem LogicDeletes (a0 : AV) (t0 : ArgTy true [.str, .int .i64, .sl [.str, .int .i64, .int .i64, .int .i64, .sl [.str, .int .i64, .int .i64], .int .i64, .bool, .bool], .sl [.str, .int .i64, .int .i64, .str], .str, .int .i64, .sl [.str, .int .i64, .int .i64, .int .i64, .sl [.str, .int .i64, .int .i64], .int .i64, .bool, .bool], .sl [.str, .int .i64, .int .i64, .str], .int .i64, .int .i64, .str, .sl [.int .i64, .str], .sl [.int .i64, .str]] a0) (a1 : AV) (t1 : ArgTy false [.int .i64] a1) : ∃ H', evC cprog 3 [a0, a1] [] = some (.bool true, H') := by
  obtain ⟨x, rfl, hx⟩ := open_Two t0
  obtain ⟨i, rfl⟩ := open_N t1
  exact f3 x hx i
end Go.Proofs.Ytbchmbddcdionaa.Pure

