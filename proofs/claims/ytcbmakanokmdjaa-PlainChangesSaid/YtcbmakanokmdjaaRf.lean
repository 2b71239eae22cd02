/- plain: which indexes and bases are right, as the program asks. -/
import Derived.Test.YtcbmakanokmdjaaRe
set_option linter.unusedSimpArgs false
set_option linter.unusedVariables false
namespace Go.Proofs.Ytcbmakanokmdjaa.Code
open Go.Proofs.Ytcbmakanokmdjaa.Ev

theorem f81 (g f : Se) (b : Nat) (H : Heap) (hb : H[b]? = some ⟨0, true, 75, 4, [rSe f]⟩) : cal (evC cprog) false 81 [.agg (rSe g), .ptr b 0 4 0 0] H = some (.bool (decide (g.name = f.name)), H) := by
  rw [cal_of at81]
  have hb' : ∀ X, (H ++ X)[b]? = some ⟨0, true, 75, 4, [rSe f]⟩ := fun X => by
    rw [List.getElem?_append_left (List.getElem?_eq_some_iff.1 hb).1]; exact hb
  simp only [rSe] at hb'
  simp only [c81, rSe, hb', evX, Int.reduceEq, Int.reduceLT, Int.reduceLE, Nat.reduceMul, Nat.reduceMod, evW, fn_eq, evR, Nat.reduceAdd, Nat.reduceLT, Nat.reduceLeDiff, reduceIte, Nat.reduceEqDiff, reduceCtorEq, argEnv, eq_self, if_true, if_false]
  repeat' ((first | rw [guardK_cases] | rw [condK_bool] | rw [guardD_cases]); split <;> simp only [c81, rSe, hb', evX, Int.reduceEq, Int.reduceLT, Int.reduceLE, Nat.reduceMul, Nat.reduceMod, evW, evR, Nat.reduceAdd, Nat.reduceLT, Nat.reduceLeDiff, reduceIte, Nat.reduceEqDiff, reduceCtorEq, argEnv, eq_self, if_true, if_false, *])
theorem f80 (l : List Se) (hl : l.length < 9223372036854775807) (f : Se) (b : Nat) (H : Heap) (hb : H[b]? = some ⟨0, true, 75, 4, [rSe f]⟩) : cal (evC cprog) false 80 [eSes l, .fn 81 [.ptr b 0 4 0 0]] H = some (.bool (l.any fun g => decide (g.name = f.name)), H) :=
  containsFunc_ok (g := 88) at80 (indexFunc_ok (sz := 4) (ag := true) at88 _ _ lSe 81 [_] _ H _ l (sSes H l) hl fun g _ => f81 g f b H hb)
/-- the field that an index tells, of its type -/
def fldOf (ts : List Ty) (x : Se) : Option Fd :=
  if 0 ≤ x.type ∧ 0 ≤ x.field then (ts[x.type.toNat]?).bind fun t => t.fields[x.field.toNat]? else none
def atMost20 : Option Fd → Bool
  | some f => decide (f.bytes ≤ 20)
  | none => false
noncomputable def seOk (ts : List Ty) (l : List Se) (i : Nat) (x : Se) : Bool :=
  isName x.name && decide ((x.sparse.size : Int) ≤ 1) && !((l.take i).any fun g => decide (g.name = x.name)) && atMost20 (fldOf ts x)
noncomputable def sesOk (ts : List Ty) (l : List Se) : Bool := tell (∀ (i : Nat) (x : Se), l[i]? = some x → seOk ts l i x = true)
noncomputable def validB (b : Base) : Bool := isName b.name && decide (1 ≤ b.kind) && decide (b.kind ≤ 4) && areTys b.types && sesOk b.types b.indexes && decide ((b.indexes.length : Int) ≤ 3)
/-- the ways in which an index tells a field, or none -/
theorem fld_cases (ts : List Ty) (x : Se) : (fldOf ts x = none ∧ (x.type < 0 ∨ (0 ≤ x.type ∧ (ts.length : Int) ≤ x.type) ∨ ∃ (k : Nat) (t : Ty), x.type = (k : Int) ∧ k < ts.length ∧ ts[k]? = some t ∧ (x.field < 0 ∨ (0 ≤ x.field ∧ (t.fields.length : Int) ≤ x.field)))) ∨
    ∃ (k : Nat) (t : Ty) (m : Nat) (f : Fd), fldOf ts x = some f ∧ x.type = (k : Int) ∧ k < ts.length ∧ ts[k]? = some t ∧ x.field = (m : Int) ∧ m < t.fields.length ∧ t.fields[m]? = some f := by
  by_cases h1 : x.type < 0
  · exact .inl ⟨by unfold fldOf; rw [if_neg (by omega)], .inl h1⟩
  by_cases h2 : (ts.length : Int) ≤ x.type
  · exact .inl ⟨by unfold fldOf; split; (· rw [List.getElem?_eq_none (by omega)]; rfl); rfl, .inr (.inl ⟨by omega, h2⟩)⟩
  have hk : x.type.toNat < ts.length := by omega
  have ht : ts[x.type.toNat]? = some (ts[x.type.toNat]'hk) := List.getElem?_eq_getElem hk
  generalize ts[x.type.toNat]'hk = t at ht
  by_cases h3 : x.field < 0
  · exact .inl ⟨by unfold fldOf; rw [if_neg (by omega)], .inr (.inr ⟨x.type.toNat, t, by omega, hk, ht, .inl h3⟩)⟩
  by_cases h4 : (t.fields.length : Int) ≤ x.field
  · refine .inl ⟨?_, .inr (.inr ⟨x.type.toNat, t, by omega, hk, ht, .inr ⟨by omega, h4⟩⟩)⟩
    unfold fldOf
    rw [if_pos (by omega), ht]
    simp only [Option.bind_some]
    rw [List.getElem?_eq_none (by omega)]
  have hm : x.field.toNat < t.fields.length := by omega
  refine .inr ⟨x.type.toNat, t, x.field.toNat, t.fields[x.field.toNat]'hm, ?_, by omega, hk, ht, by omega, hm, List.getElem?_eq_getElem hm⟩
  unfold fldOf
  rw [if_pos (by omega), ht]
  simp only [Option.bind_some]
  exact List.getElem?_eq_getElem hm
theorem f56 (ts : List Ty) (l : List Se) (hl : l.length < 9223372036854775807) (hok : ∀ x ∈ l, x.Ok) (H : Heap) :
    cal (evC cprog) false 56 [eSes l, eTys ts] H = some (.bool (sesOk ts l && decide ((l.length : Int) ≤ 3)), H) := by
  rw [cal_of at56]
  have hlen := (sSes [] l).len
  have hlt' := (sTys [] ts).len
  simp only [List.length_map] at hlen hlt'
  simp only [c56, hlen, evX, Int.reduceEq, Int.reduceLT, Int.reduceLE, Nat.reduceMul, Nat.reduceMod, evW, fn_eq, evR, Nat.reduceAdd, Nat.reduceLT, Nat.reduceLeDiff, reduceIte, Nat.reduceEqDiff, reduceCtorEq, argEnv, eq_self, if_true, if_false]
  repeat' ((first | rw [guardK_cases] | rw [condK_bool] | rw [guardD_cases]); split <;> simp only [c56, hlen, evX, Int.reduceEq, Int.reduceLT, Int.reduceLE, Nat.reduceMul, Nat.reduceMod, evW, evR, Nat.reduceAdd, Nat.reduceLT, Nat.reduceLeDiff, reduceIte, Nat.reduceEqDiff, reduceCtorEq, argEnv, eq_self, if_true, if_false, *])
  generalize hz : itLim _ _ = z
  have L := scan_rule l (seOk ts l) [0, 1, 8, 9, 10] (fun i => [(0, eSes l), (1, eTys ts), (8, eSes l), (9, .int .i64 (l.length : Int)), (10, .int .i64 (i : Int))]) H [] (evCode (evC cprog) itLim c56_l0) (fun c T => c = .exit 0 ∧ keepEnv T [0] = [(0, eSes l)]) (fun _ _ c T => c = .ret ∧ get T 4 = some (.bool false))
    (fun i x hx E G hE => by
      have hlt : i < l.length := (List.getElem?_eq_some_iff.1 hx).1
      have hi : (i : Int) < (l.length : Int) := by omega
      have hxo := hok x (List.mem_of_getElem? hx)
      obtain ⟨p, hp, hat⟩ := PtrLst.at rSe (sz := 4) (fun _ => rfl) l hx
      change iaddrK 4 (some (eSes l)) _ = _ at hp
      have hag := fun H => (hat H).agg (n := 4) rfl
      have hc := f80 (l.take i) (by rw [List.length_take]; omega) x (H.length + G.length) (H ++ (G ++ [⟨0, true, 75, 4, [rSe x]⟩])) (by simp)
      have hs := fun H => slc_take rSe (sz := 4) (fun _ => rfl) H l (i := i) (by omega)
      have hn := f54 x.name hxo.name
      change ∀ H, evSlc H 4 (eSes l) none (some i) none = some (eSes (l.take i)) at hs
      simp only [rSe] at hag hc
      rcases fld_cases ts x with ⟨hf, h | ⟨h, h'⟩ | ⟨k, t, hk, hkl, ht, h⟩⟩ | ⟨k, t, m, f, hf, hk, hkl, ht, hm, hml, hff⟩
      · simp only [c56_l0, hE, hi, hp, hag, hs, hc, hn, h, wrapS hlt hl, evX, Int.reduceEq, Int.reduceLT, Int.reduceLE, Nat.reduceMul, Nat.reduceMod, evW, fn_eq, evR, Nat.reduceAdd, Nat.reduceLT, Nat.reduceLeDiff, reduceIte, Nat.reduceEqDiff, reduceCtorEq, argEnv, eq_self, if_true, if_false]
        repeat' ((first | rw [guardK_cases] | rw [condK_bool] | rw [guardD_cases]); split <;> simp only [c56_l0, hE, hi, hp, hag, hs, hc, hn, h, wrapS hlt hl, evX, Int.reduceEq, Int.reduceLT, Int.reduceLE, Nat.reduceMul, Nat.reduceMod, evW, evR, Nat.reduceAdd, Nat.reduceLT, Nat.reduceLeDiff, reduceIte, Nat.reduceEqDiff, reduceCtorEq, argEnv, eq_self, if_true, if_false, *])
        all_goals exact Sc.ret (by simp [seOk, hf, atMost20]) ⟨rfl, rfl⟩
      · have h0 : ¬ x.type < 0 := by omega
        simp only [c56_l0, hE, hi, hp, hag, hs, hc, hn, h0, h', hlt', wrapS hlt hl, evX, Int.reduceEq, Int.reduceLT, Int.reduceLE, Nat.reduceMul, Nat.reduceMod, evW, fn_eq, evR, Nat.reduceAdd, Nat.reduceLT, Nat.reduceLeDiff, reduceIte, Nat.reduceEqDiff, reduceCtorEq, argEnv, eq_self, if_true, if_false]
        repeat' ((first | rw [guardK_cases] | rw [condK_bool] | rw [guardD_cases]); split <;> simp only [c56_l0, hE, hi, hp, hag, hs, hc, hn, h0, h', hlt', wrapS hlt hl, evX, Int.reduceEq, Int.reduceLT, Int.reduceLE, Nat.reduceMul, Nat.reduceMod, evW, evR, Nat.reduceAdd, Nat.reduceLT, Nat.reduceLeDiff, reduceIte, Nat.reduceEqDiff, reduceCtorEq, argEnv, eq_self, if_true, if_false, *])
        all_goals exact Sc.ret (by simp [seOk, hf, atMost20]) ⟨rfl, rfl⟩
      · have k0 : ¬ (k : Int) < 0 := by omega
        have k1 : ¬ (ts.length : Int) ≤ (k : Int) := by omega
        obtain ⟨q, hq, hqt⟩ := PtrLst.at rTy (sz := 8) (fun _ => rfl) ts ht
        change iaddrK 8 (some (eTys ts)) _ = _ at hq
        have hl1 := fun o s H => (hqt H).fld o s
        have hl2 := fun o => (hqt []).faddr o
        have hfl := (sFds [] t.fields).len
        simp only [List.length_map] at hfl
        simp only [rTy] at hl1
        simp only [hk] at hag hc
        rcases h with h | ⟨h, h'⟩
        · simp only [c56_l0, hE, hi, hp, hag, hs, hc, hn, k0, k1, hlt', hq, hl1, hl2, hfl, h, wrapS hlt hl, evX, Int.reduceEq, Int.reduceLT, Int.reduceLE, Nat.reduceMul, Nat.reduceMod, evW, fn_eq, evR, Nat.reduceAdd, Nat.reduceLT, Nat.reduceLeDiff, reduceIte, Nat.reduceEqDiff, reduceCtorEq, argEnv, eq_self, if_true, if_false]
          repeat' ((first | rw [guardK_cases] | rw [condK_bool] | rw [guardD_cases]); split <;> simp only [c56_l0, hE, hi, hp, hag, hs, hc, hn, k0, k1, hlt', hq, hl1, hl2, hfl, h, wrapS hlt hl, evX, Int.reduceEq, Int.reduceLT, Int.reduceLE, Nat.reduceMul, Nat.reduceMod, evW, evR, Nat.reduceAdd, Nat.reduceLT, Nat.reduceLeDiff, reduceIte, Nat.reduceEqDiff, reduceCtorEq, argEnv, eq_self, if_true, if_false, *])
          all_goals exact Sc.ret (by simp [seOk, hf, atMost20, *]) ⟨rfl, rfl⟩
        · have h0 : ¬ x.field < 0 := by omega
          simp only [c56_l0, hE, hi, hp, hag, hs, hc, hn, k0, k1, hlt', hq, hl1, hl2, hfl, h0, h', wrapS hlt hl, evX, Int.reduceEq, Int.reduceLT, Int.reduceLE, Nat.reduceMul, Nat.reduceMod, evW, fn_eq, evR, Nat.reduceAdd, Nat.reduceLT, Nat.reduceLeDiff, reduceIte, Nat.reduceEqDiff, reduceCtorEq, argEnv, eq_self, if_true, if_false]
          repeat' ((first | rw [guardK_cases] | rw [condK_bool] | rw [guardD_cases]); split <;> simp only [c56_l0, hE, hi, hp, hag, hs, hc, hn, k0, k1, hlt', hq, hl1, hl2, hfl, h0, h', wrapS hlt hl, evX, Int.reduceEq, Int.reduceLT, Int.reduceLE, Nat.reduceMul, Nat.reduceMod, evW, evR, Nat.reduceAdd, Nat.reduceLT, Nat.reduceLeDiff, reduceIte, Nat.reduceEqDiff, reduceCtorEq, argEnv, eq_self, if_true, if_false, *])
          all_goals exact Sc.ret (by simp [seOk, hf, atMost20, *]) ⟨rfl, rfl⟩
      · have k0 : ¬ (k : Int) < 0 := by omega
        have k1 : ¬ (ts.length : Int) ≤ (k : Int) := by omega
        have m0 : ¬ (m : Int) < 0 := by omega
        have m1 : ¬ (t.fields.length : Int) ≤ (m : Int) := by omega
        obtain ⟨q, hq, hqt⟩ := PtrLst.at rTy (sz := 8) (fun _ => rfl) ts ht
        change iaddrK 8 (some (eTys ts)) _ = _ at hq
        have hl1 := fun o s H => (hqt H).fld o s
        have hl2 := fun o => (hqt []).faddr o
        obtain ⟨q', hq', hqt'⟩ := PtrLst.at rFd (sz := 3) (fun _ => rfl) t.fields hff
        change iaddrK 3 (some (eFds t.fields)) _ = _ at hq'
        have hl3 := fun o s H => (hqt' H).fld o s
        have hl4 := fun o => (hqt' []).faddr o
        have hfl := (sFds [] t.fields).len
        simp only [List.length_map] at hfl
        simp only [rTy] at hl1
        simp only [rFd] at hl3
        simp only [hk, hm] at hag hc
        simp only [c56_l0, hE, hi, hp, hag, hs, hc, hn, k0, k1, m0, m1, hlt', hq, hl1, hl2, hq', hl3, hl4, hfl, wrapS hlt hl, evX, Int.reduceEq, Int.reduceLT, Int.reduceLE, Nat.reduceMul, Nat.reduceMod, evW, fn_eq, evR, Nat.reduceAdd, Nat.reduceLT, Nat.reduceLeDiff, reduceIte, Nat.reduceEqDiff, reduceCtorEq, argEnv, eq_self, if_true, if_false]
        repeat' ((first | rw [guardK_cases] | rw [condK_bool] | rw [guardD_cases]); split <;> simp only [c56_l0, hE, hi, hp, hag, hs, hc, hn, k0, k1, m0, m1, hlt', hq, hl1, hl2, hq', hl3, hl4, hfl, wrapS hlt hl, evX, Int.reduceEq, Int.reduceLT, Int.reduceLE, Nat.reduceMul, Nat.reduceMod, evW, evR, Nat.reduceAdd, Nat.reduceLT, Nat.reduceLeDiff, reduceIte, Nat.reduceEqDiff, reduceCtorEq, argEnv, eq_self, if_true, if_false, *])
        all_goals first | refine Sc.ret ?_ ⟨rfl, rfl⟩ | refine Sc.next ?_ (by rfl)
        all_goals first | (simp_all [seOk, atMost20]; done) | (simp_all [seOk, atMost20]; intros; omega) | (simp_all [seOk, atMost20]; rename_i h; intro h1; obtain ⟨y, h2, h3⟩ := h; exact absurd h3 (h1 y h2)))
    (fun E G hE => by
      simp only [c56_l0, hE, Int.lt_irrefl, evX, Int.reduceEq, Int.reduceLT, Int.reduceLE, Nat.reduceMul, Nat.reduceMod, evW, fn_eq, evR, Nat.reduceAdd, Nat.reduceLT, Nat.reduceLeDiff, reduceIte, Nat.reduceEqDiff, reduceCtorEq, argEnv, eq_self, if_true, if_false]
      repeat' ((first | rw [guardK_cases] | rw [condK_bool] | rw [guardD_cases]); split <;> simp only [c56_l0, hE, Int.lt_irrefl, evX, Int.reduceEq, Int.reduceLT, Int.reduceLE, Nat.reduceMul, Nat.reduceMod, evW, evR, Nat.reduceAdd, Nat.reduceLT, Nat.reduceLeDiff, reduceIte, Nat.reduceEqDiff, reduceCtorEq, argEnv, eq_self, if_true, if_false, *])
      exact .exit (K := []) ⟨rfl, by rfl⟩) _ [] (by rfl) (by simp) z hz
  rcases L with ⟨ha, c, T, G, rfl, _, rfl, hT⟩ | ⟨i, r, hx, ha, _, c, T, G, rfl, _, rfl, hT⟩
  · simp only [hT, hlen, evX, Int.reduceEq, Int.reduceLT, Int.reduceLE, Nat.reduceMul, Nat.reduceMod, evW, fn_eq, evR, Nat.reduceAdd, Nat.reduceLT, Nat.reduceLeDiff, reduceIte, Nat.reduceEqDiff, reduceCtorEq, argEnv, eq_self, if_true, if_false]
    repeat' ((first | rw [guardK_cases] | rw [condK_bool] | rw [guardD_cases]); split <;> simp only [hT, hlen, evX, Int.reduceEq, Int.reduceLT, Int.reduceLE, Nat.reduceMul, Nat.reduceMod, evW, evR, Nat.reduceAdd, Nat.reduceLT, Nat.reduceLeDiff, reduceIte, Nat.reduceEqDiff, reduceCtorEq, argEnv, eq_self, if_true, if_false, *])
    all_goals (simp_all [sesOk, tell_pos]; try (intros; omega))
  · have : sesOk ts l = false := tell_neg fun h => by rw [h i r hx] at ha; cases ha
    simp only [hT, evX, Int.reduceEq, Int.reduceLT, Int.reduceLE, Nat.reduceMul, Nat.reduceMod, evW, fn_eq, evR, Nat.reduceAdd, Nat.reduceLT, Nat.reduceLeDiff, reduceIte, Nat.reduceEqDiff, reduceCtorEq, argEnv, eq_self, if_true, if_false]
    repeat' ((first | rw [guardK_cases] | rw [condK_bool] | rw [guardD_cases]); split <;> simp only [hT, evX, Int.reduceEq, Int.reduceLT, Int.reduceLE, Nat.reduceMul, Nat.reduceMod, evW, evR, Nat.reduceAdd, Nat.reduceLT, Nat.reduceLeDiff, reduceIte, Nat.reduceEqDiff, reduceCtorEq, argEnv, eq_self, if_true, if_false, *])
    rw [this]; rfl
theorem f32 (b : Base) (hb : b.Ok) (H : Heap) : cal (evC cprog) false 32 [eBase b] H = some (.bool (validB b), H) := by
  rw [cal_of at32]
  have h1 := f54 b.name hb.name
  have h2 := f55 b.types hb.type
  have h3 := f56 b.types b.indexes hb.indexes hb.index
  simp only [c32, eBase, h1, h2, h3, evX, Int.reduceEq, Int.reduceLT, Int.reduceLE, Nat.reduceMul, Nat.reduceMod, evW, fn_eq, evR, Nat.reduceAdd, Nat.reduceLT, Nat.reduceLeDiff, reduceIte, Nat.reduceEqDiff, reduceCtorEq, argEnv, eq_self, if_true, if_false]
  repeat' ((first | rw [guardK_cases] | rw [condK_bool] | rw [guardD_cases]); split <;> simp only [c32, eBase, h1, h2, h3, evX, Int.reduceEq, Int.reduceLT, Int.reduceLE, Nat.reduceMul, Nat.reduceMod, evW, evR, Nat.reduceAdd, Nat.reduceLT, Nat.reduceLeDiff, reduceIte, Nat.reduceEqDiff, reduceCtorEq, argEnv, eq_self, if_true, if_false, *])
  all_goals (simp_all [validB]; try (intros; omega))
end Go.Proofs.Ytcbmakanokmdjaa.Code
