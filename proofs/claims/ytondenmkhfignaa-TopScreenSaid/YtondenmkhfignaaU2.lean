/- Texts of ours, joined into one file; each begins with its own remark. -/
import Derived.Test.YtondenmkhfignaaU1
/- screen: messages that come back as they were: the whole, and what that says. -/
set_option linter.unusedSimpArgs false
set_option linter.unusedVariables false
namespace Go.Proofs.Ytondenmkhfignaa.Code
open Go.Proofs.Ytondenmkhfignaa.Ev

theorem raO_slat (K G : Heap) (n : Nat) (o : List ByteArray) (h : o.length = n) : SlAt (K ++ (hbO n o ++ G)) 1 (raO n K.length) (o.map rS) := by
  by_cases h0 : n = 0
  · subst h0
    have ho : o = [] := List.eq_nil_of_length_eq_zero h
    subst ho
    exact ⟨rfl, fun i row hi => by simp at hi⟩
  · have hb : hbO n o = [⟨0, true, 9, 1, o.map rS⟩] := if_neg h0
    have hr : raO n K.length = .ref K.length 0 1 0 n := if_neg h0
    rw [hb, hr]
    have := SlAt.ref (H := K ++ ([⟨0, true, 9, 1, o.map rS⟩] ++ G)) (sz := 1) (b := K.length) (v := 0) (off := 0) (rows := o.map rS) (k := ⟨0, true, 9, 1, o.map rS⟩) (by simp [curBlk]) fun i row hi => ⟨by obtain ⟨_, _, rfl⟩ := List.mem_map.1 (List.mem_of_getElem? hi); rfl, by rw [Nat.zero_add]; exact hi⟩
    rwa [List.length_map, h] at this
theorem l13_1 (o : List ByteArray) (ho : o.length ≤ 1000) (ra : AV) (Z : Heap) (hsl : SlAt Z 1 ra (o.map rS)) (st : St) (hE : keepEnv st.1 [5, 9] = [(5, ra), (9, .int .i64 0)]) (hH : st.2 = Z ++ ([] ++ [])) (z : Option (CX × St)) (hz : itLim (evCode (evC cprog) itLim c13_l1) st = z) :
    (o.all (fun t => decide (t = ⟨#[]⟩)) = true ∧ Lv Z [] (fun c T => c = .exit 2) z) ∨ (o.all (fun t => decide (t = ⟨#[]⟩)) = false ∧ Lv Z [] (fun c T => c = .ret ∧ get T 4 = some (.bool false)) z) := by
  have hlen := hsl.len
  rw [List.length_map] at hlen
  exact all_rule o _ [5, 9] (fun i => [(5, ra), (9, .int .i64 (i : Int))]) Z [] (evCode (evC cprog) itLim c13_l1) _ _
    (fun i t hx E G hE => by
      have hlt : i < o.length := (List.getElem?_eq_some_iff.1 hx).1
      have hi : (i : Int) < (o.length : Int) := by omega
      obtain ⟨_, p, h1, h2⟩ := (hsl.app G).get i (rS t) (by rw [List.getElem?_map, hx]; rfl)
      have h3 := h2.one
      by_cases ht : t = ⟨#[]⟩
      · have ht' : (t = ⟨#[]⟩) = True := eq_true ht
        rw [decide_eq_true ht]
        clear ht
        simp only [c13_l1, hE, hi, hlen, h1, h3, ht', wrapS hlt (by omega), evX, Int.reduceEq, Int.reduceLT, Int.reduceLE, Nat.reduceMul, Nat.reduceMod, evW, fn_eq, evR, Nat.reduceAdd, Nat.reduceLT, Nat.reduceLeDiff, reduceIte, Nat.reduceEqDiff, reduceCtorEq, argEnv, eq_self, if_true, if_false]
        repeat' ((first | rw [guardK_cases] | rw [condK_bool] | rw [guardD_cases]); split <;> simp only [c13_l1, hE, hi, hlen, h1, h3, ht', wrapS hlt (by omega), evX, Int.reduceEq, Int.reduceLT, Int.reduceLE, Nat.reduceMul, Nat.reduceMod, evW, evR, Nat.reduceAdd, Nat.reduceLT, Nat.reduceLeDiff, reduceIte, Nat.reduceEqDiff, reduceCtorEq, argEnv, eq_self, if_true, if_false, *])
        exact Sc.next rfl (by rfl)
      · have ht' : (t = ⟨#[]⟩) = False := eq_false ht
        rw [decide_eq_false ht]
        clear ht
        simp only [c13_l1, hE, hi, hlen, h1, h3, ht', evX, Int.reduceEq, Int.reduceLT, Int.reduceLE, Nat.reduceMul, Nat.reduceMod, evW, fn_eq, evR, Nat.reduceAdd, Nat.reduceLT, Nat.reduceLeDiff, reduceIte, Nat.reduceEqDiff, reduceCtorEq, argEnv, eq_self, if_true, if_false]
        repeat' ((first | rw [guardK_cases] | rw [condK_bool] | rw [guardD_cases]); split <;> simp only [c13_l1, hE, hi, hlen, h1, h3, ht', evX, Int.reduceEq, Int.reduceLT, Int.reduceLE, Nat.reduceMul, Nat.reduceMod, evW, evR, Nat.reduceAdd, Nat.reduceLT, Nat.reduceLeDiff, reduceIte, Nat.reduceEqDiff, reduceCtorEq, argEnv, eq_self, if_true, if_false, *])
        exact Sc.ret rfl ⟨rfl, rfl⟩)
    (fun E G hE => by
      simp only [c13_l1, hE, hlen, Int.lt_irrefl, evX, Int.reduceEq, Int.reduceLT, Int.reduceLE, Nat.reduceMul, Nat.reduceMod, evW, fn_eq, evR, Nat.reduceAdd, Nat.reduceLT, Nat.reduceLeDiff, reduceIte, Nat.reduceEqDiff, reduceCtorEq, argEnv, eq_self, if_true, if_false]
      repeat' ((first | rw [guardK_cases] | rw [condK_bool] | rw [guardD_cases]); split <;> simp only [c13_l1, hE, hlen, Int.lt_irrefl, evX, Int.reduceEq, Int.reduceLT, Int.reduceLE, Nat.reduceMul, Nat.reduceMod, evW, evR, Nat.reduceAdd, Nat.reduceLT, Nat.reduceLeDiff, reduceIte, Nat.reduceEqDiff, reduceCtorEq, argEnv, eq_self, if_true, if_false, *])
      exact .exit (K := []) rfl) st [] hE hH z hz
set_option maxHeartbeats 4000000 in
theorem f13 (f : Form) (g : FormG f) (l : List ByteArray) (hs : ∀ s ∈ f.slots, s.out < (l.length : Int)) (hl : l.length ≤ 1000) (hsz : ∀ t ∈ l, t.size ≤ 1000000) (H : Heap) : ∃ v, cal (evC cprog) false 13 [eForm f, eStrs l] H = some (.bool v, H) ∧ (v = true → (∀ s ∈ f.slots, okP l s = true) ∧ ∀ t ∈ leftF l f.slots, t = ⟨#[]⟩) := by
  rw [cal_of at13]
  have hcl : (eStrs l).cells = [eStrs l] := rfl
  have htl : (eStrs l).isTup = false := rfl
  have hap : ∀ K, appK 9 1 16 false K (some .nil0) (some (eStrs l)) = some (raO l.length K.length, K ++ hbO l.length l) := fun K => by
    by_cases h0 : l.length = 0
    · have : l = [] := List.eq_nil_of_length_eq_zero h0
      subst this
      simp only [raO, hbO, List.length_nil, if_true, List.append_nil]
      rfl
    · have ha := app_nil0 (ty := 9) (sz := 1) (bytes := 16) (H := K) (a := eStrs l) (src := l.map rS) rfl (by intro h; apply h0; simpa using congrArg List.length h) (headOk_map rS (fun _ => rfl) l) (by simp only [List.length_map, reach]; omega)
      rw [List.length_map] at ha
      rw [ha]
      simp only [raO, hbO, h0, if_false]
  obtain ⟨K, hK⟩ : ∃ K : Heap, K = H ++ [bForm f] := ⟨_, rfl⟩
  have kl : K.length = H.length + 1 := by rw [hK]; simp
  have kt : ∀ Z, (K ++ Z).take H.length = H := fun Z => by rw [hK]; simp
  have hap1 := hap (H ++ [bForm f])
  simp only [bForm, List.append_assoc, List.cons_append, List.nil_append, List.length_append, List.length_cons, List.length_nil, Nat.zero_add] at hap1
  clear hap
  simp only [c13, eForm, hcl, htl, hap1, evX, Int.reduceEq, Int.reduceLT, Int.reduceLE, Nat.reduceMul, Nat.reduceMod, evW, fn_eq, evR, Nat.reduceAdd, Nat.reduceLT, Nat.reduceLeDiff, reduceIte, Nat.reduceEqDiff, reduceCtorEq, argEnv, eq_self, if_true, if_false]
  repeat' ((first | rw [guardK_cases] | rw [condK_bool] | rw [guardD_cases]); split <;> simp only [c13, eForm, hcl, htl, hap1, evX, Int.reduceEq, Int.reduceLT, Int.reduceLE, Nat.reduceMul, Nat.reduceMod, evW, evR, Nat.reduceAdd, Nat.reduceLT, Nat.reduceLeDiff, reduceIte, Nat.reduceEqDiff, reduceCtorEq, argEnv, eq_self, if_true, if_false, *])
  generalize hz : itLim _ _ = z
  rcases l13_0 f g l hs hsz H.length K (.mk (by rw [hK]; simp)) _ (by rw [kl]; rfl) (by rw [hK]; simp [bForm]) z hz with ⟨T, G, rfl, hT, hok⟩ | ⟨T, Y, rfl, hT⟩
  case inr =>
    refine ⟨false, ?_, by simp⟩
    have ht := kt Y
    generalize K ++ Y = Z at *
    simp only [hT, evX, Int.reduceEq, Int.reduceLT, Int.reduceLE, Nat.reduceMul, Nat.reduceMod, evW, fn_eq, evR, Nat.reduceAdd, Nat.reduceLT, Nat.reduceLeDiff, reduceIte, Nat.reduceEqDiff, reduceCtorEq, argEnv, eq_self, if_true, if_false]
    repeat' ((first | rw [guardK_cases] | rw [condK_bool] | rw [guardD_cases]); split <;> simp only [hT, evX, Int.reduceEq, Int.reduceLT, Int.reduceLE, Nat.reduceMul, Nat.reduceMod, evW, evR, Nat.reduceAdd, Nat.reduceLT, Nat.reduceLeDiff, reduceIte, Nat.reduceEqDiff, reduceCtorEq, argEnv, eq_self, if_true, if_false, *])
    exact gc_fall rfl ht
  clear hz
  have hol : (leftF l f.slots).length = l.length := left_len _ _
  have hsl := raO_slat K G l.length (leftF l f.slots) hol
  have ht := fun Y => kt ((hbO l.length (leftF l f.slots) ++ G) ++ Y)
  generalize hZ : K ++ (hbO l.length (leftF l f.slots) ++ G) = Z at *
  generalize hra : raO l.length K.length = ra at *
  simp only [hT, evX, Int.reduceEq, Int.reduceLT, Int.reduceLE, Nat.reduceMul, Nat.reduceMod, evW, fn_eq, evR, Nat.reduceAdd, Nat.reduceLT, Nat.reduceLeDiff, reduceIte, Nat.reduceEqDiff, reduceCtorEq, argEnv, eq_self, if_true, if_false]
  repeat' ((first | rw [guardK_cases] | rw [condK_bool] | rw [guardD_cases]); split <;> simp only [hT, evX, Int.reduceEq, Int.reduceLT, Int.reduceLE, Nat.reduceMul, Nat.reduceMod, evW, evR, Nat.reduceAdd, Nat.reduceLT, Nat.reduceLeDiff, reduceIte, Nat.reduceEqDiff, reduceCtorEq, argEnv, eq_self, if_true, if_false, *])
  generalize hz : itLim _ _ = z
  rcases l13_1 (leftF l f.slots) (by omega) ra Z hsl _ (by rfl) (by simp) z hz with ⟨h1, c, T, G', rfl, _, rfl⟩ | ⟨h1, c, T, G', rfl, _, rfl, hT⟩
  · refine ⟨true, ?_, fun _ => ⟨hok, fun t ht => of_decide_eq_true (List.all_eq_true.1 h1 t ht)⟩⟩
    have ht' : (Z ++ ([] ++ G')).take H.length = H := by rw [← hZ, List.append_assoc]; exact ht _
    generalize Z ++ ([] ++ G') = Z' at *
    simp only [evX, Int.reduceEq, Int.reduceLT, Int.reduceLE, Nat.reduceMul, Nat.reduceMod, evW, fn_eq, evR, Nat.reduceAdd, Nat.reduceLT, Nat.reduceLeDiff, reduceIte, Nat.reduceEqDiff, reduceCtorEq, argEnv, eq_self, if_true, if_false]
    repeat' ((first | rw [guardK_cases] | rw [condK_bool] | rw [guardD_cases]); split <;> simp only [evX, Int.reduceEq, Int.reduceLT, Int.reduceLE, Nat.reduceMul, Nat.reduceMod, evW, evR, Nat.reduceAdd, Nat.reduceLT, Nat.reduceLeDiff, reduceIte, Nat.reduceEqDiff, reduceCtorEq, argEnv, eq_self, if_true, if_false, *])
    exact gc_fall rfl ht'
  · refine ⟨false, ?_, by simp⟩
    have ht' : (Z ++ ([] ++ G')).take H.length = H := by rw [← hZ, List.append_assoc]; exact ht _
    generalize Z ++ ([] ++ G') = Z' at *
    simp only [hT, evX, Int.reduceEq, Int.reduceLT, Int.reduceLE, Nat.reduceMul, Nat.reduceMod, evW, fn_eq, evR, Nat.reduceAdd, Nat.reduceLT, Nat.reduceLeDiff, reduceIte, Nat.reduceEqDiff, reduceCtorEq, argEnv, eq_self, if_true, if_false]
    repeat' ((first | rw [guardK_cases] | rw [condK_bool] | rw [guardD_cases]); split <;> simp only [hT, evX, Int.reduceEq, Int.reduceLT, Int.reduceLE, Nat.reduceMul, Nat.reduceMod, evW, evR, Nat.reduceAdd, Nat.reduceLT, Nat.reduceLeDiff, reduceIte, Nat.reduceEqDiff, reduceCtorEq, argEnv, eq_self, if_true, if_false, *])
    exact gc_fall rfl ht'
/-! what that says -/
def setG (key : Slot → Int) (val : Slot → ByteArray) (o : List ByteArray) (s : Slot) : List ByteArray := if key s < 0 then o else o.set (key s).toNat (val s)
theorem set_out {key : Slot → Int} {val : Slot → ByteArray} {k : Nat} : ∀ (L : List Slot) (o : List ByteArray), (∀ s ∈ L, key s ≠ (k : Int)) → (L.foldl (setG key val) o)[k]? = o[k]?
  | [], o, _ => rfl
  | s :: L, o, h => by
    rw [List.foldl_cons, set_out L _ fun t ht => h t (List.mem_cons_of_mem _ ht)]
    unfold setG
    split
    · rfl
    · have := h s (List.mem_cons_self ..)
      rw [List.getElem?_set_ne (by omega)]
theorem set_in {key : Slot → Int} {val : Slot → ByteArray} {k : Nat} {v : ByteArray} : ∀ (L : List Slot) (o : List ByteArray), k < o.length → (∀ s ∈ L, key s = (k : Int) → val s = v) → (o[k]? = some v ∨ ∃ s ∈ L, key s = (k : Int)) → (L.foldl (setG key val) o)[k]? = some v
  | [], o, _, _, h => by
    rcases h with h | ⟨s, hs, _⟩
    · exact h
    · cases hs
  | s :: L, o, hk, hv, h => by
    rw [List.foldl_cons]
    have hlen : (setG key val o s).length = o.length := by unfold setG; split <;> simp
    refine set_in L _ (by rw [hlen]; exact hk) (fun t ht => hv t (List.mem_cons_of_mem _ ht)) ?_
    by_cases he : key s = (k : Int)
    · refine .inl ?_
      unfold setG
      rw [if_neg (by omega), show (key s).toNat = k by omega, List.getElem?_set_self hk, hv s (List.mem_cons_self ..) he]
    · rcases h with h | ⟨t, ht, e⟩
      · refine .inl ?_
        unfold setG
        split
        · exact h
        · rw [List.getElem?_set_ne (by omega)]; exact h
      · rcases List.mem_cons.1 ht with rfl | ht
        · exact absurd e he
        · exact .inr ⟨t, ht, e⟩
theorem trim_app (t u : ByteArray) (c : UInt8) : ∀ k, k ≤ t.size → trimN (t ++ u) c k = trimN t c k
  | 0, _ => rfl
  | k + 1, h => by
    simp only [trimN]
    rw [app_list, List.getElem?_append_left (by rw [size_eq]; omega), trim_app t u c k (by omega)]
theorem trim_rep (t : ByteArray) (c : UInt8) (m : Nat) : ∀ j, j ≤ m → trimN (t ++ repB c m) c (t.size + j) = trimN t c t.size
  | 0, _ => trim_app t _ c t.size (Nat.le_refl _)
  | j + 1, h => by
    have hx : (t ++ repB c m).data.toList[t.size + j]? = some c := by
      rw [app_list, List.getElem?_append_right (by rw [size_eq]; omega), size_eq, repB_list, Nat.add_sub_cancel_left]
      have hjm : j < (List.replicate m c).length := by rw [List.length_replicate]; omega
      rw [List.getElem?_eq_getElem hjm, List.getElem_replicate]
    rw [← Nat.add_assoc]
    simp only [trimN, hx, if_true]
    exact trim_rep t c m j (by omega)
theorem trimN_le (t : ByteArray) (c : UInt8) : ∀ k, trimN t c k ≤ k
  | 0 => Nat.le_refl _
  | k + 1 => by
    simp only [trimN]
    split
    · have := trimN_le t c k; omega
    · exact Nat.le_refl _
theorem trim_filled {s : Slot} {t : ByteArray} (h : t.size ≤ s.bytes.toNat) : trimB (filledB s t) s.fill = trimB t s.fill := by
  unfold filledB
  split
  · rw [show s.bytes.toNat = t.size by omega, cut_all]
  · unfold trimB
    have hsz : (t ++ repB s.fill (s.bytes.toNat - t.size)).size = t.size + (s.bytes.toNat - t.size) := by rw [← size_eq, app_list, List.length_append, size_eq, size_eq, repB_size]
    rw [hsz, trim_rep t s.fill _ _ (Nat.le_refl _)]
    have := trimN_le t s.fill t.size
    refine bytes_ext ?_
    rw [ext_list, ext_list, List.drop_zero, List.drop_zero, app_list, List.take_append_of_le_length (by rw [size_eq]; exact this)]
theorem trim_last {t : ByteArray} {c : UInt8} (h : lastF t c = false) : trimB t c = t := by
  unfold trimB
  have : trimN t c t.size = t.size := by
    unfold lastF at h
    cases hn : t.size with
    | zero => rfl
    | succ n =>
      rw [hn] at h
      simp only [Nat.zero_lt_succ, decide_true, Bool.true_and, Nat.add_sub_cancel, decide_eq_false_iff_not] at h
      simp only [trimN]
      rw [if_neg h]
  rw [this, cut_all]
theorem mx_same {L : List Slot} (h : ∀ s ∈ L, s.inn = s.out) : ∀ a, L.foldl (fun a s => max a (Slot.inn s + 1)) a = L.foldl (fun a s => max a (Slot.out s + 1)) a := by
  induction L with
  | nil => exact fun a => rfl
  | cons s L ih =>
    intro a
    rw [List.foldl_cons, List.foldl_cons, h s (List.mem_cons_self ..)]
    exact ih (fun t ht => h t (List.mem_cons_of_mem _ ht)) _
theorem plain_back {f : Form} (g : FormG f) {l : List ByteArray} (hl : (l.length : Int) = mxI Slot.out f.slots) (hok : ∀ s ∈ f.slots, okP l s = true) (hleft : ∀ t ∈ leftF l f.slots, t = ⟨#[]⟩) : outF (showP f l) (mxI Slot.inn f.slots).toNat f.slots = l := by
  have hio : ∀ s ∈ f.slots, s.inn = s.out := fun s hs => by
    have := hok s hs
    simp only [okP, Bool.and_eq_true, decide_eq_true_eq] at this
    exact this.1
  have hn : (mxI Slot.inn f.slots).toNat = l.length := by
    have : mxI Slot.inn f.slots = mxI Slot.out f.slots := mx_same hio 0
    omega
  rw [hn]
  refine List.ext_getElem? fun k => ?_
  by_cases hk : k < l.length
  · have hrd : ∀ s ∈ f.slots, s.inn = (k : Int) → trimB (rdG (showP f l) s) s.fill = rowP l k := fun s hs he => by
      have h1 : rdG (showP f l) s = fillG l s := read_lays (apart_of g) (fun s _ => filled_size s _) (base_dim g) hs
      have ho : s.out = (k : Int) := by rw [← hio s hs]; exact he
      have h2 := hok s hs
      simp only [okP, Bool.and_eq_true, Bool.or_eq_true, decide_eq_true_eq, Bool.not_eq_true'] at h2
      rw [ho, Int.toNat_natCast] at h2
      rcases h2.2 with h3 | ⟨h3, h4⟩
      · omega
      · rw [h1]
        unfold fillG txtOf
        rw [if_neg (by omega), ho, Int.toNat_natCast, trim_filled (by omega), trim_last h4]
    have ht := rowP_lt hk
    unfold outF
    by_cases hex : ∃ s ∈ f.slots, s.inn = (k : Int)
    · rw [ht]
      exact set_in (key := Slot.inn) (val := fun s => trimB (rdG (showP f l) s) s.fill) f.slots _ (by simpa using hk) hrd (.inr hex)
    · have h1 := set_out (key := Slot.inn) (val := fun s => trimB (rdG (showP f l) s) s.fill) (k := k) f.slots (List.replicate l.length ⟨#[]⟩) fun s hs he => hex ⟨s, hs, he⟩
      refine Eq.trans h1 ?_
      have h2 := set_out (key := Slot.out) (val := fun _ => (⟨#[]⟩ : ByteArray)) (k := k) f.slots l fun s hs he => hex ⟨s, hs, by rw [hio s hs]; exact he⟩
      have h3 : (leftF l f.slots)[k]? = l[k]? := h2
      rw [List.getElem?_replicate, if_pos hk, ht]
      rw [ht] at h3
      rw [hleft _ (List.mem_of_getElem? h3)]
  · rw [List.getElem?_eq_none (by rw [outF_len]; omega), List.getElem?_eq_none (by omega)]
end Go.Proofs.Ytondenmkhfignaa.Code

/- screen: a word typed into a picture. -/
set_option linter.unusedSimpArgs false
set_option linter.unusedVariables false
namespace Go.Proofs.Ytondenmkhfignaa.Code
open Go.Proofs.Ytondenmkhfignaa.Ev

theorem l15_0 (x : Slot) (t : ByteArray) (ht : t.size ≤ 1000000) (a1 a9 : AV) (b : Nat) (K : Heap) (hb : Sits K b (bSlot x)) (st : St) (hE : keepEnv st.1 [10, 14, 16, 17] = [(10, a1), (14, a9), (16, .ptr b 0 7 0 0), (17, .str t)]) (hH : st.2 = K) (z : Option (CX × St)) (hz : itLim (evCode (evC cprog) itLim c15_l0) st = z) :
    ∃ T, z = some (.exit 0, T, K) ∧ keepEnv T [10, 14, 16, 17] = [(10, a1), (14, a9), (16, .ptr b 0 7 0 0), (17, .str (trimB t x.fill))] := by
  have hb' := hb.at
  simp only [bSlot, rSlot] at hb'
  have L := loop_rule (σ := Nat) (m := [10, 14, 16, 17]) (env := fun k => [(10, a1), (14, a9), (16, .ptr b 0 7 0 0), (17, .str (t.extract 0 k))]) (hp := fun _ => K)
    (P := fun _ r => ∃ T, r = (.exit 0, T, K) ∧ keepEnv T [10, 14, 16, 17] = [(10, a1), (14, a9), (16, .ptr b 0 7 0 0), (17, .str (trimB t x.fill))])
    (mu := fun k => k) (I := fun k => k ≤ t.size ∧ trimN t x.fill k = trimN t x.fill t.size) (evCode (evC cprog) itLim c15_l0) ?_ t.size st ⟨Nat.le_refl _, rfl⟩ (by rw [cut_all]; exact hE) hH z hz
  · obtain ⟨_, rfl, T, rfl, hT⟩ := L
    exact ⟨T, rfl, hT⟩
  · rintro k ⟨hk, hI⟩ E hE
    have hsz := cut_size hk
    cases k with
    | zero =>
      have h0 : ¬ (0 : Int) < ((t.extract 0 0).size : Int) := by omega
      have he : t.extract 0 0 = trimB t x.fill := by unfold trimB; rw [← hI]; rfl
      simp only [c15_l0, hE, h0, evX, Int.reduceEq, Int.reduceLT, Int.reduceLE, Nat.reduceMul, Nat.reduceMod, evW, fn_eq, evR, Nat.reduceAdd, Nat.reduceLT, Nat.reduceLeDiff, reduceIte, Nat.reduceEqDiff, reduceCtorEq, argEnv, eq_self, if_true, if_false]
      repeat' ((first | rw [guardK_cases] | rw [condK_bool] | rw [guardD_cases]); split <;> simp only [c15_l0, hE, h0, evX, Int.reduceEq, Int.reduceLT, Int.reduceLE, Nat.reduceMul, Nat.reduceMod, evW, evR, Nat.reduceAdd, Nat.reduceLT, Nat.reduceLeDiff, reduceIte, Nat.reduceEqDiff, reduceCtorEq, argEnv, eq_self, if_true, if_false, *])
      exact q_exit ⟨_, rfl, by rw [← he]; rfl⟩
    | succ k =>
      have h0 : (0 : Int) < ((t.extract 0 (k + 1)).size : Int) := by omega
      obtain ⟨c, c1, c2, c3⟩ := trim_step hk
      have hw : IntKind.i64.wrap (((t.extract 0 (k + 1)).size : Int) - 1) = (k : Int) := by rw [hsz, wrap_i64 (by omega) (by omega)]; omega
      by_cases hc : c = x.fill
      · have hc' : ((c.toNat : Int) = (x.fill.toNat : Int)) = True := by rw [u8_eq]; exact eq_true hc
        have hN : trimN t x.fill (k + 1) = trimN t x.fill k := by simp only [trimN, c1]; rw [if_pos (by rw [hc])]
        clear hc hsz
        generalize t.extract 0 (k + 1) = u at *
        simp only [c15_l0, hE, h0, hw, c2, hb', hc', p_slcs, slcsK_some, asNat_cast, c3, evX, Int.reduceEq, Int.reduceLT, Int.reduceLE, Nat.reduceMul, Nat.reduceMod, evW, fn_eq, evR, Nat.reduceAdd, Nat.reduceLT, Nat.reduceLeDiff, reduceIte, Nat.reduceEqDiff, reduceCtorEq, argEnv, eq_self, if_true, if_false]
        repeat' ((first | rw [guardK_cases] | rw [condK_bool] | rw [guardD_cases]); split <;> simp only [c15_l0, hE, h0, hw, c2, hb', hc', p_slcs, slcsK_some, asNat_cast, c3, evX, Int.reduceEq, Int.reduceLT, Int.reduceLE, Nat.reduceMul, Nat.reduceMod, evW, evR, Nat.reduceAdd, Nat.reduceLT, Nat.reduceLeDiff, reduceIte, Nat.reduceEqDiff, reduceCtorEq, argEnv, eq_self, if_true, if_false, *])
        exact q_next k (by rfl) rfl ⟨by omega, by rw [← hN]; exact hI⟩ (by omega) fun r h => h
      · have hc' : ((c.toNat : Int) = (x.fill.toNat : Int)) = False := by rw [u8_eq]; exact eq_false hc
        have he : t.extract 0 (k + 1) = trimB t x.fill := by
          unfold trimB
          rw [← hI]
          simp only [trimN, c1]
          rw [if_neg (by simpa using hc)]
        clear hc hsz
        generalize t.extract 0 (k + 1) = u at *
        simp only [c15_l0, hE, h0, hw, c2, hb', hc', evX, Int.reduceEq, Int.reduceLT, Int.reduceLE, Nat.reduceMul, Nat.reduceMod, evW, fn_eq, evR, Nat.reduceAdd, Nat.reduceLT, Nat.reduceLeDiff, reduceIte, Nat.reduceEqDiff, reduceCtorEq, argEnv, eq_self, if_true, if_false]
        repeat' ((first | rw [guardK_cases] | rw [condK_bool] | rw [guardD_cases]); split <;> simp only [c15_l0, hE, h0, hw, c2, hb', hc', evX, Int.reduceEq, Int.reduceLT, Int.reduceLE, Nat.reduceMul, Nat.reduceMod, evW, evR, Nat.reduceAdd, Nat.reduceLT, Nat.reduceLeDiff, reduceIte, Nat.reduceEqDiff, reduceCtorEq, argEnv, eq_self, if_true, if_false, *])
        exact q_exit ⟨_, rfl, by rw [← he]; rfl⟩
theorem inn_one {f : Form} (g : FormG f) {s t : Slot} (hs : s ∈ f.slots) (ht : t ∈ f.slots) (h : s.inn = t.inn) (h0 : 0 ≤ s.inn) : s = t := by
  obtain ⟨i, hi⟩ := List.getElem?_of_mem hs
  obtain ⟨j, hj⟩ := List.getElem?_of_mem ht
  have key : ∀ (i j : Nat) (s t : Slot), f.slots[i]? = some s → f.slots[j]? = some t → s.inn = t.inn → 0 ≤ s.inn → ¬ i < j := fun i j s t hi hj h h0 hij => by
    obtain ⟨_, _, _, _, _, _, hc⟩ := slot_parts (g.slot j t hj)
    have := List.any_eq_false.1 hc s (List.mem_of_getElem? (by rw [List.getElem?_take, if_pos hij]; exact hi))
    apply this
    unfold clash
    rw [decide_eq_true (show 0 ≤ t.inn by omega), decide_eq_true h]
    simp
  have h1 := key i j s t hi hj h h0
  have h2 := key j i t s hj hi h.symm (by omega)
  have : i = j := by omega
  subst this
  rw [hi] at hj; cases hj; rfl
theorem typE_cases (f : Form) (name t : ByteArray) : (typE f name t = 0 ∧ isText t = true ∧ ∃ (i : Nat) (x : Slot), ixF f name = (i : Int) ∧ f.slots[i]? = some x ∧ (t.size : Int) ≤ x.bytes) ∨ typE f name t = 2 ∨ (typE f name t = 5 ∧ ixF f name < 0) := by
  cases ht : isText t with
  | false => exact .inr (.inl (by unfold typE; rw [ht]; rfl))
  | true =>
    rcases ix_cases f name with hi | ⟨i, x, hi, hx⟩
    · refine .inr (.inr ⟨?_, by omega⟩)
      unfold typE
      rw [ht, if_pos rfl, hi]
      split <;> rfl
    · have hi0 : ¬ (i : Int) < 0 := by omega
      by_cases c : (t.size : Int) ≤ x.bytes
      · exact .inl ⟨by unfold typE; rw [ht, if_pos rfl, hi, Int.toNat_natCast, hx]; simp only; rw [if_neg hi0, if_pos c], rfl, i, x, hi, hx, c⟩
      · exact .inr (.inl (by unfold typE; rw [ht, if_pos rfl, hi, Int.toNat_natCast, hx]; simp only; rw [if_neg hi0, if_neg c]))
set_option maxHeartbeats 8000000 in
theorem f15 (f : Form) (g : FormG f) (p : List ByteArray) (hp : PicF f p) (name t : ByteArray) (ht : t.size ≤ 1000000) (H : Heap) : ∃ q, PicF f q ∧ cal (evC cprog) true 15 [eForm f, eStrs p, .agg [.str name, .str t]] H = some (.tup [eStrs q, .bool true], H) := by
  rw [cal_of at15]
  have h52 := f52 f g name
  have h53 := f53 f g p hp name t ht
  have hcl : (eStrs p).cells = [eStrs p] := rfl
  have htl : (eStrs p).isTup = false := rfl
  simp only [eForm] at h52 h53
  rcases typE_cases f name t with ⟨e, hx, i, x, hi, hxi, hle⟩ | e | ⟨e, hneg⟩
  · have hm := List.mem_of_getElem? hxi
    obtain ⟨p1, p2, p3, p4, hfl, s1, s2, s3, s4, s5⟩ := g.slotAt hm
    have eq1 : typP f p name t = lay p x.row.toNat x.col.toNat (filledB x t) := by unfold typP; rw [hi, Int.toNat_natCast, hxi]
    have hq : PicF f (typP f p name t) := by rw [eq1]; exact hp.lay (apart_of g) hm (filled_size x t) (filled_txt hfl hx)
    refine ⟨typP f p name t, hq, ?_⟩
    have hrd : rdG (typP f p name t) x = filledB x t := by
      rw [eq1]
      exact read_lay hp.dim ((apart_of g).row x hm) ((apart_of g).col x hm) (filled_size x t)
    have h11 := f11 f g _ hq
    have h12 := f12 f g _ hq
    have hi0 : ¬ (i : Int) < 0 := by omega
    rw [hi, if_neg hi0] at h52
    rw [e, if_pos rfl] at h53
    have hl2 := (sSlots [] f.slots).len
    simp only [List.length_map] at hl2
    have hil : ¬ (f.slots.length : Int) ≤ (i : Int) := by have := (List.getElem?_eq_some_iff.1 hxi).1; omega
    have ha := aSlot hxi
    obtain ⟨b1, b2, _⟩ := mx_ge Slot.inn f.slots 0
    have hmx := b2 x hm
    change x.inn + 1 ≤ mxI Slot.inn f.slots at hmx
    simp only [eForm] at h11 h12
    have hqt : (eStrs (typP f p name t)).isTup = false := rfl
    by_cases c : x.inn < 0
    · clear hrd hq eq1 e hmx b1 b2 s1 s2 s3 s4 s5 p1 p2 p3 p4
      generalize typP f p name t = q at *
      generalize outF q (mxI Slot.inn f.slots).toNat f.slots = o at *
      simp only [c15, eForm, hcl, htl, h52, h53, h11, h12, hi0, hl2, hil, ha, rSlot, c, hqt, evX, Int.reduceEq, Int.reduceLT, Int.reduceLE, Nat.reduceMul, Nat.reduceMod, evW, fn_eq, evR, Nat.reduceAdd, Nat.reduceLT, Nat.reduceLeDiff, reduceIte, Nat.reduceEqDiff, reduceCtorEq, argEnv, eq_self, if_true, if_false]
      repeat' ((first | rw [guardK_cases] | rw [condK_bool] | rw [guardD_cases]); split <;> simp only [c15, eForm, hcl, htl, h52, h53, h11, h12, hi0, hl2, hil, ha, rSlot, c, hqt, evX, Int.reduceEq, Int.reduceLT, Int.reduceLE, Nat.reduceMul, Nat.reduceMod, evW, evR, Nat.reduceAdd, Nat.reduceLT, Nat.reduceLeDiff, reduceIte, Nat.reduceEqDiff, reduceCtorEq, argEnv, eq_self, if_true, if_false, *])
      exact calK_frz (ids := []) rfl rfl (by simp) (by simp)
    · have hon : (outF (typP f p name t) (mxI Slot.inn f.slots).toNat f.slots)[x.inn.toNat]? = some (trimB t x.fill) := by
        refine set_in (key := Slot.inn) (val := fun s => trimB (rdG (typP f p name t) s) s.fill) f.slots _ (by rw [List.length_replicate]; omega) (fun s hs he => ?_) (.inr ⟨x, hm, by omega⟩)
        have hsx : s = x := inn_one g hs hm (by omega) (by omega)
        subst hsx
        rw [hrd, trim_filled (by omega)]
      have hol := outF_len (typP f p name t) (mxI Slot.inn f.slots).toNat f.slots
      have hao := aS hon
      rw [Int.toNat_of_nonneg (by omega)] at hao
      have hlo := (sStrs [] (outF (typP f p name t) (mxI Slot.inn f.slots).toNat f.slots)).len
      rw [List.length_map, hol] at hlo
      have hlt : x.inn < (((mxI Slot.inn f.slots).toNat : Nat) : Int) := by omega
      have c' : ¬ x.inn < 0 := c
      clear hrd hq eq1 e hmx b1 b2 s1 s2 s3 s4 s5 p1 p2 p3 p4 hon hol c
      generalize typP f p name t = q at *
      generalize outF q (mxI Slot.inn f.slots).toNat f.slots = o at *
      generalize (mxI Slot.inn f.slots).toNat = mn at *
      have L := fun st hE hH z hz => l15_0 x t ht (eStrs q) (eStrs o) (H.length + 2) (H ++ [bForm f, ⟨0, true, 39, 2, [[.str name, .str t]]⟩, bSlot x]) (.mk (by simp)) st hE hH z hz
      simp only [c15, eForm, hcl, htl, h52, h53, h11, h12, hi0, hl2, hil, ha, rSlot, c', hqt, evX, Int.reduceEq, Int.reduceLT, Int.reduceLE, Nat.reduceMul, Nat.reduceMod, evW, fn_eq, evR, Nat.reduceAdd, Nat.reduceLT, Nat.reduceLeDiff, reduceIte, Nat.reduceEqDiff, reduceCtorEq, argEnv, eq_self, if_true, if_false]
      repeat' ((first | rw [guardK_cases] | rw [condK_bool] | rw [guardD_cases]); split <;> simp only [c15, eForm, hcl, htl, h52, h53, h11, h12, hi0, hl2, hil, ha, rSlot, c', hqt, evX, Int.reduceEq, Int.reduceLT, Int.reduceLE, Nat.reduceMul, Nat.reduceMod, evW, evR, Nat.reduceAdd, Nat.reduceLT, Nat.reduceLeDiff, reduceIte, Nat.reduceEqDiff, reduceCtorEq, argEnv, eq_self, if_true, if_false, *])
      generalize hz : itLim _ _ = z
      obtain ⟨T, rfl, hT⟩ := L _ (by rfl) (by simp [bForm, bSlot, rSlot]) z hz
      simp only [hT, bForm, bSlot, rSlot, hlo, hlt, hao, rS, hqt, evX, Int.reduceEq, Int.reduceLT, Int.reduceLE, Nat.reduceMul, Nat.reduceMod, evW, fn_eq, evR, Nat.reduceAdd, Nat.reduceLT, Nat.reduceLeDiff, reduceIte, Nat.reduceEqDiff, reduceCtorEq, argEnv, eq_self, if_true, if_false]
      repeat' ((first | rw [guardK_cases] | rw [condK_bool] | rw [guardD_cases]); split <;> simp only [hT, bForm, bSlot, rSlot, hlo, hlt, hao, rS, hqt, evX, Int.reduceEq, Int.reduceLT, Int.reduceLE, Nat.reduceMul, Nat.reduceMod, evW, evR, Nat.reduceAdd, Nat.reduceLT, Nat.reduceLeDiff, reduceIte, Nat.reduceEqDiff, reduceCtorEq, argEnv, eq_self, if_true, if_false, *])
      exact calK_frz (ids := []) rfl rfl (by simp) (by simp)
  · refine ⟨p, hp, ?_⟩
    rw [e, if_neg (by omega)] at h53
    by_cases c : ixF f name < 0
    · rw [if_pos c] at h52
      simp only [c15, eForm, hcl, htl, h52, h53, evX, Int.reduceEq, Int.reduceLT, Int.reduceLE, Nat.reduceMul, Nat.reduceMod, evW, fn_eq, evR, Nat.reduceAdd, Nat.reduceLT, Nat.reduceLeDiff, reduceIte, Nat.reduceEqDiff, reduceCtorEq, argEnv, eq_self, if_true, if_false]
      repeat' ((first | rw [guardK_cases] | rw [condK_bool] | rw [guardD_cases]); split <;> simp only [c15, eForm, hcl, htl, h52, h53, evX, Int.reduceEq, Int.reduceLT, Int.reduceLE, Nat.reduceMul, Nat.reduceMod, evW, evR, Nat.reduceAdd, Nat.reduceLT, Nat.reduceLeDiff, reduceIte, Nat.reduceEqDiff, reduceCtorEq, argEnv, eq_self, if_true, if_false, *])
      exact calK_frz (ids := []) rfl rfl (by simp) (by simp)
    · rw [if_neg c] at h52
      simp only [c15, eForm, hcl, htl, h52, h53, evX, Int.reduceEq, Int.reduceLT, Int.reduceLE, Nat.reduceMul, Nat.reduceMod, evW, fn_eq, evR, Nat.reduceAdd, Nat.reduceLT, Nat.reduceLeDiff, reduceIte, Nat.reduceEqDiff, reduceCtorEq, argEnv, eq_self, if_true, if_false]
      repeat' ((first | rw [guardK_cases] | rw [condK_bool] | rw [guardD_cases]); split <;> simp only [c15, eForm, hcl, htl, h52, h53, evX, Int.reduceEq, Int.reduceLT, Int.reduceLE, Nat.reduceMul, Nat.reduceMod, evW, evR, Nat.reduceAdd, Nat.reduceLT, Nat.reduceLeDiff, reduceIte, Nat.reduceEqDiff, reduceCtorEq, argEnv, eq_self, if_true, if_false, *])
      exact calK_frz (ids := []) rfl rfl (by simp) (by simp)
  · refine ⟨p, hp, ?_⟩
    rw [e, if_neg (by omega)] at h53
    rw [if_pos hneg] at h52
    simp only [c15, eForm, hcl, htl, h52, h53, evX, Int.reduceEq, Int.reduceLT, Int.reduceLE, Nat.reduceMul, Nat.reduceMod, evW, fn_eq, evR, Nat.reduceAdd, Nat.reduceLT, Nat.reduceLeDiff, reduceIte, Nat.reduceEqDiff, reduceCtorEq, argEnv, eq_self, if_true, if_false]
    repeat' ((first | rw [guardK_cases] | rw [condK_bool] | rw [guardD_cases]); split <;> simp only [c15, eForm, hcl, htl, h52, h53, evX, Int.reduceEq, Int.reduceLT, Int.reduceLE, Nat.reduceMul, Nat.reduceMod, evW, evR, Nat.reduceAdd, Nat.reduceLT, Nat.reduceLeDiff, reduceIte, Nat.reduceEqDiff, reduceCtorEq, argEnv, eq_self, if_true, if_false, *])
    exact calK_frz (ids := []) rfl rfl (by simp) (by simp)
end Go.Proofs.Ytondenmkhfignaa.Code

/- screen: the pages of a message. -/
set_option linter.unusedSimpArgs false
set_option linter.unusedVariables false
namespace Go.Proofs.Ytondenmkhfignaa.Code
open Go.Proofs.Ytondenmkhfignaa.Ev

def rP (p : List ByteArray) : List AV := [eStrs p]
def ePages (l : List (List ByteArray)) : AV := .lst (l.map rP)
theorem plain_P (q : List (List ByteArray)) : Plain (q.map rP) := by
  intro r hr a ha
  obtain ⟨n, _, rfl⟩ := List.mem_map.1 hr
  obtain rfl : a = eStrs n := by simpa [rP] using ha
  exact ⟨rfl, fun _ _ => rfl⟩
def offs (n S k : Nat) : Nat := min (k * n) S
theorem offs_succ (n S k : Nat) : offs n S (k + 1) = offs n S k + min n (S - offs n S k) := by
  unfold offs
  rw [Nat.succ_mul]
  generalize k * n = a
  omega
theorem offs_le (n S k : Nat) : offs n S k ≤ S := Nat.min_le_right _ _
def pieceB (T : ByteArray) (n k : Nat) : ByteArray := T.extract (offs n T.size k) (offs n T.size (k + 1))
def pageP (f : Form) (l : List ByteArray) (n k : Nat) : List ByteArray := showP f (l.set 0 (pieceB (rowP l 0) n k))
def pagesL (f : Form) (l : List ByteArray) (n k : Nat) : List (List ByteArray) := (List.range k).map (pageP f l n)
theorem pages_succ (f : Form) (l : List ByteArray) (n k : Nat) : pagesL f l n (k + 1) = pagesL f l n k ++ [pageP f l n k] := by
  unfold pagesL
  rw [List.range_succ, List.map_append]
  rfl
theorem rest_size {T : ByteArray} {a : Nat} (h : a ≤ T.size) : (T.extract a T.size).size = T.size - a := by
  rw [← size_eq, ext_list, List.length_drop, List.take_of_length_le (Nat.le_of_eq (size_eq T)), size_eq]
theorem rest_cut {T : ByteArray} {a m : Nat} (h : a ≤ T.size) (hm : m ≤ T.size - a) : evSlcs (T.extract a T.size) none (some m) = some (.str (T.extract a (a + m))) ∧ evSlcs (T.extract a T.size) (some m) none = some (.str (T.extract (a + m) T.size)) := by
  have hs := rest_size h
  constructor
  · unfold evSlcs
    simp only [Option.getD_some, Option.getD_none]
    rw [if_pos ⟨by omega, by omega⟩]
    refine congrArg some (congrArg AV.str (bytes_ext ?_))
    simp only [ext_list, List.drop_zero]
    rw [List.take_of_length_le (Nat.le_of_eq (size_eq T)), List.drop_take, Nat.add_sub_cancel_left]
  · unfold evSlcs
    simp only [Option.getD_some, Option.getD_none]
    rw [if_pos ⟨by omega, by omega⟩, hs]
    refine congrArg some (congrArg AV.str (bytes_ext ?_))
    simp only [ext_list]
    rw [List.take_of_length_le (l := T.data.toList) (Nat.le_of_eq (size_eq T)), List.take_of_length_le (by rw [List.length_drop, size_eq]; omega), List.drop_drop]
theorem set_bad {l : List ByteArray} (h : l.any badT = false) {t : ByteArray} (ht : badT t = false) (i : Nat) : (l.set i t).any badT = false := by
  rw [List.any_eq_false] at *
  intro s hs
  rcases List.mem_or_eq_of_mem_set hs with hs | rfl
  · exact h s hs
  · rw [ht]; simp
theorem piece_bad {T : ByteArray} (h : badT T = false) (n k : Nat) : badT (pieceB T n k) = false := by
  unfold badT at *
  simp only [Bool.or_eq_false_iff, decide_eq_false_iff_not, Bool.not_eq_false'] at *
  refine ⟨?_, txt_cut h.2 _ _⟩
  have : (pieceB T n k).size ≤ T.size := by
    unfold pieceB
    rw [← size_eq, ext_list, List.length_drop, List.length_take, size_eq]
    omega
  omega
set_option maxHeartbeats 8000000 in
theorem l54_0 (f : Form) (g : FormG f) (l : List ByteArray) (hs : ∀ s ∈ f.slots, s.out < (l.length : Int)) (hb : l.any badT = false) (h0 : 0 < l.length) (hl : l.length ≤ 1000) (n : Nat) (hn : 1 ≤ n) (hn4 : n ≤ 40) (b : Nat) (K : Heap) (hbf : Sits K b (bForm f)) (st : St) (hE : keepEnv st.1 [1, 2, 8, 9, 10] = [(1, eStrs l), (2, .ptr b 0 4 0 0), (8, .int .i64 (n : Int)), (9, .nils), (10, .str (rowP l 0))]) (hH : st.2 = K) (z : Option (CX × St)) (hz : itLim (evCode (evC cprog) itLim c54_l0) st = z) :
    ∃ k T X rv, z = some (.exit 0, T, K ++ X) ∧ keepEnv T [9] = [(9, rv)] ∧ Out K.length 1 26 X rv ((pagesL f l n k).map rP) ∧ 1 ≤ k ∧ (rowP l 0).size ≤ k * n ∧ (k = 1 ∨ (k - 1) * n < (rowP l 0).size) ∧ k ≤ 1000 := by
  have hbf' := hbf
  simp only [bForm, Sits] at hbf'
  have hl0 := rowP_lt h0
  have hb0 : badT (rowP l 0) = false := by simpa using List.any_eq_false.1 hb _ (List.mem_of_getElem? hl0)
  have hTs : (rowP l 0).size ≤ 200 := by
    unfold badT at hb0
    simp only [Bool.or_eq_false_iff, decide_eq_false_iff_not] at hb0
    omega
  have L := loop_rule (σ := Nat × Heap × AV) (m := [1, 2, 8, 9, 10]) (env := fun s => [(1, eStrs l), (2, .ptr b 0 4 0 0), (8, .int .i64 (n : Int)), (9, s.2.2), (10, .str ((rowP l 0).extract (offs n (rowP l 0).size s.1) (rowP l 0).size))]) (hp := fun s => K ++ s.2.1)
    (P := fun _ r => ∃ k T X rv, r = (.exit 0, T, K ++ X) ∧ keepEnv T [9] = [(9, rv)] ∧ Out K.length 1 26 X rv ((pagesL f l n k).map rP) ∧ 1 ≤ k ∧ (rowP l 0).size ≤ k * n ∧ (k = 1 ∨ (k - 1) * n < (rowP l 0).size) ∧ k ≤ 1000)
    (mu := fun s => 300 - s.1) (I := fun s => Out K.length 1 26 s.2.1 s.2.2 ((pagesL f l n s.1).map rP) ∧ (s.1 ≤ 1 ∨ (s.1 - 1) * n < (rowP l 0).size) ∧ s.1 ≤ 201) (evCode (evC cprog) itLim c54_l0) ?_ (0, [], .nils) st ⟨.nils .., by simp, by simp⟩ (by
      have : (rowP l 0).extract (offs n (rowP l 0).size 0) (rowP l 0).size = rowP l 0 := by
        rw [show offs n (rowP l 0).size 0 = 0 by unfold offs; omega, cut_all]
      rw [this]; exact hE) (by simpa using hH) z hz
  · obtain ⟨_, rfl, k, T, X, rv, rfl, h⟩ := L
    exact ⟨k, T, X, rv, rfl, h⟩
  · rintro ⟨k, X, rv⟩ ⟨hO, hk, hk2⟩ E hE
    simp only at hO hk hk2 hE ⊢
    have hol := out_len hO
    rw [List.length_map, show (pagesL f l n k).length = k by simp [pagesL]] at hol
    have hoff := offs_le n (rowP l 0).size k
    have hrs := rest_size hoff
    have hstop : (1 ≤ k ∧ (rowP l 0).size ≤ k * n) ∨ (k = 0 ∨ k * n < (rowP l 0).size) := by omega
    rcases hstop with ⟨k1, k2⟩ | hgo
    · have hk0 : ((k : Int) = 0) = False := eq_false (by omega)
      have hz0 : (rowP l 0).extract (offs n (rowP l 0).size k) (rowP l 0).size = ⟨#[]⟩ := by
        refine bytes_ext (List.eq_nil_of_length_eq_zero ?_)
        rw [size_eq, hrs]
        unfold offs
        omega
      rw [hz0] at hE
      simp only [c54_l0, hE, hol, hk0, evX, Int.reduceEq, Int.reduceLT, Int.reduceLE, Nat.reduceMul, Nat.reduceMod, evW, fn_eq, evR, Nat.reduceAdd, Nat.reduceLT, Nat.reduceLeDiff, reduceIte, Nat.reduceEqDiff, reduceCtorEq, argEnv, eq_self, if_true, if_false]
      repeat' ((first | rw [guardK_cases] | rw [condK_bool] | rw [guardD_cases]); split <;> simp only [c54_l0, hE, hol, hk0, evX, Int.reduceEq, Int.reduceLT, Int.reduceLE, Nat.reduceMul, Nat.reduceMod, evW, evR, Nat.reduceAdd, Nat.reduceLT, Nat.reduceLeDiff, reduceIte, Nat.reduceEqDiff, reduceCtorEq, argEnv, eq_self, if_true, if_false, *])
      exact q_exit ⟨k, _, X, rv, rfl, by rfl, hO, k1, k2, by omega, by omega⟩
    · obtain ⟨m, hm⟩ : ∃ m, m = min n ((rowP l 0).size - offs n (rowP l 0).size k) := ⟨_, rfl⟩
      obtain ⟨q1, q2⟩ := rest_cut hoff (m := m) (by omega)
      have hsc := offs_succ n (rowP l 0).size k
      rw [← hm] at hsc
      rw [← hsc] at q1 q2
      change evSlcs _ none (some m) = some (.str (pieceB (rowP l 0) n k)) at q1
      have hpsz : (pieceB (rowP l 0) n k).size = m := by
        unfold pieceB
        have := offs_le n (rowP l 0).size (k + 1)
        rw [← size_eq, ext_list, List.length_drop, List.length_take, size_eq]
        omega
      have hmin : min (n : Int) (((rowP l 0).extract (offs n (rowP l 0).size k) (rowP l 0).size).size : Int) = (m : Int) := by rw [hrs]; omega
      have hcond : ((k : Int) = 0) = True ∨ (((k : Int) = 0) = False ∧ ((rowP l 0).extract (offs n (rowP l 0).size k) (rowP l 0).size = ⟨#[]⟩) = False) := by
        by_cases h : k = 0
        · exact .inl (eq_true (by omega))
        · refine .inr ⟨eq_false (by omega), eq_false fun h2 => ?_⟩
          rw [h2] at hrs
          have : (⟨#[]⟩ : ByteArray).size = 0 := rfl
          unfold offs at hrs
          omega
      have h98 := clone_at (lo := 0) (K ++ X) (eStrs l) l (.lst h0 _) h0 hl
      have hset : (l.map rS).set 0 [.str (pieceB (rowP l 0) n k)] = (l.set 0 (pieceB (rowP l 0) n k)).map rS := by rw [List.map_set]; rfl
      have hy : ((l.set 0 (pieceB (rowP l 0) n k)).map rS)[0]? = some [.str (pieceB (rowP l 0) n k)] := by rw [List.getElem?_map, List.getElem?_set_self h0]; rfl
      have hy0 : (l.map rS)[0]? = some [.str (rowP l 0)] := by rw [List.getElem?_map, hl0]; rfl
      have h45 := f45 f g (l.set 0 (pieceB (rowP l 0) n k)) (.ref (K.length + X.length) 0 1 0 l.length) (fun s h => by rw [List.length_set]; exact hs s h) (set_bad hb (piece_bad hb0 n k) 0) rfl rfl (K ++ (X ++ [⟨0, true, 9, 1, (l.set 0 (pieceB (rowP l 0) n k)).map rS⟩])) (by
        have := SlAt.ref (H := K ++ (X ++ [⟨0, true, 9, 1, (l.set 0 (pieceB (rowP l 0) n k)).map rS⟩])) (sz := 1) (b := K.length + X.length) (v := 0) (off := 0) (rows := (l.set 0 (pieceB (rowP l 0) n k)).map rS) (k := ⟨0, true, 9, 1, (l.set 0 (pieceB (rowP l 0) n k)).map rS⟩) (by rw [← List.append_assoc]; simp [curBlk]) fun i row hi => ⟨by obtain ⟨_, _, rfl⟩ := List.mem_map.1 (List.mem_of_getElem? hi); rfl, by rw [Nat.zero_add]; exact hi⟩
        simpa using this)
      change cal _ true 45 _ _ = some (eStrs (pageP f l n k), _) at h45
      obtain ⟨rv1, X1, a1, a2, a3, _⟩ := app_row (hO.more [⟨0, true, 9, 1, (l.set 0 (pieceB (rowP l 0) n k)).map rS⟩]) K rfl 24 (rP (pageP f l n k)) rfl (by simp only [List.length_map, pagesL, List.length_range, reach]; omega)
      simp only [List.append_assoc, List.cons_append, List.nil_append, rP, List.length_append, List.length_cons, List.length_nil, Nat.zero_add] at a1
      simp only [eForm, List.append_assoc] at h45
      simp only [List.append_assoc, List.length_append] at h98
      have hn0 := h0
      have hout : Out K.length 1 26 X1 rv1 ((pagesL f l n (k + 1)).map rP) := by rw [pages_succ, List.map_append]; exact a3
      have hII : (k + 1 ≤ 1 ∨ (k + 1 - 1) * n < (rowP l 0).size) := by rw [Nat.add_sub_cancel]; omega
      have hkk : k + 1 ≤ 201 := by
        rcases hgo with rfl | h
        · omega
        · have := Nat.mul_le_mul_left k hn
          omega
      clear a3 hO hrs hoff hsc hm hgo
      generalize (l.set 0 (pieceB (rowP l 0) n k)).map rS = els' at *
      generalize pageP f l n k = pg at *
      generalize pieceB (rowP l 0) n k = pc at *
      generalize hll : (rowP l 0).extract (offs n (rowP l 0).size k) (rowP l 0).size = lf at *
      have hcl : (eStrs pg).cells = [eStrs pg] := rfl
      have htl : (eStrs pg).isTup = false := rfl
      rcases hcond with hc | ⟨hc, hc2⟩
      · simp only [c54_l0, hE, hol, hc, h98, hmin, q1, q2, hpsz, hy0, hy, hset, hbf', h45, hcl, htl, a1, a2, asNat_0, hn0, p_slcs, slcsK_some, asNat_cast, mm_min, evX, Int.reduceEq, Int.reduceLT, Int.reduceLE, Nat.reduceMul, Nat.reduceMod, evW, fn_eq, evR, Nat.reduceAdd, Nat.reduceLT, Nat.reduceLeDiff, reduceIte, Nat.reduceEqDiff, reduceCtorEq, argEnv, eq_self, if_true, if_false]
        repeat' ((first | rw [guardK_cases] | rw [condK_bool] | rw [guardD_cases]); split <;> simp only [c54_l0, hE, hol, hc, h98, hmin, q1, q2, hpsz, hy0, hy, hset, hbf', h45, hcl, htl, a1, a2, asNat_0, hn0, p_slcs, slcsK_some, asNat_cast, mm_min, evX, Int.reduceEq, Int.reduceLT, Int.reduceLE, Nat.reduceMul, Nat.reduceMod, evW, evR, Nat.reduceAdd, Nat.reduceLT, Nat.reduceLeDiff, reduceIte, Nat.reduceEqDiff, reduceCtorEq, argEnv, eq_self, if_true, if_false, *])
        exact q_next (k + 1, X1, rv1) (by rfl) rfl ⟨hout, hII, hkk⟩ (by show 300 - (k + 1) < 300 - k; omega) fun _ h => h
      · simp only [c54_l0, hE, hol, hc, hc2, h98, hmin, q1, q2, hpsz, hy0, hy, hset, hbf', h45, hcl, htl, a1, a2, asNat_0, hn0, p_slcs, slcsK_some, asNat_cast, mm_min, evX, Int.reduceEq, Int.reduceLT, Int.reduceLE, Nat.reduceMul, Nat.reduceMod, evW, fn_eq, evR, Nat.reduceAdd, Nat.reduceLT, Nat.reduceLeDiff, reduceIte, Nat.reduceEqDiff, reduceCtorEq, argEnv, eq_self, if_true, if_false]
        repeat' ((first | rw [guardK_cases] | rw [condK_bool] | rw [guardD_cases]); split <;> simp only [c54_l0, hE, hol, hc, hc2, h98, hmin, q1, q2, hpsz, hy0, hy, hset, hbf', h45, hcl, htl, a1, a2, asNat_0, hn0, p_slcs, slcsK_some, asNat_cast, mm_min, evX, Int.reduceEq, Int.reduceLT, Int.reduceLE, Nat.reduceMul, Nat.reduceMod, evW, evR, Nat.reduceAdd, Nat.reduceLT, Nat.reduceLeDiff, reduceIte, Nat.reduceEqDiff, reduceCtorEq, argEnv, eq_self, if_true, if_false, *])
        exact q_next (k + 1, X1, rv1) (by rfl) rfl ⟨hout, hII, hkk⟩ (by show 300 - (k + 1) < 300 - k; omega) fun _ h => h
end Go.Proofs.Ytondenmkhfignaa.Code

/- screen: Pages. -/
set_option linter.unusedSimpArgs false
set_option linter.unusedVariables false
namespace Go.Proofs.Ytondenmkhfignaa.Code
open Go.Proofs.Ytondenmkhfignaa.Ev

def fillX (f : Form) : Int := idxOf (fun s : Slot => decide (s.out = 0)) f.slots
theorem f101 (s : Slot) (H : Heap) : cal (evC cprog) false 101 [.agg (rSlot s)] H = some (.bool (decide (s.out = 0)), H) := by
  rw [cal_of at101]
  simp only [c101, rSlot, evX, Int.reduceEq, Int.reduceLT, Int.reduceLE, Nat.reduceMul, Nat.reduceMod, evW, fn_eq, evR, Nat.reduceAdd, Nat.reduceLT, Nat.reduceLeDiff, reduceIte, Nat.reduceEqDiff, reduceCtorEq, argEnv, eq_self, if_true, if_false]
  repeat' ((first | rw [guardK_cases] | rw [condK_bool] | rw [guardD_cases]); split <;> simp only [c101, rSlot, evX, Int.reduceEq, Int.reduceLT, Int.reduceLE, Nat.reduceMul, Nat.reduceMod, evW, evR, Nat.reduceAdd, Nat.reduceLT, Nat.reduceLeDiff, reduceIte, Nat.reduceEqDiff, reduceCtorEq, argEnv, eq_self, if_true, if_false, *])
theorem fill_cases (f : Form) : fillX f = -1 ∨ ∃ (i : Nat) (x : Slot), fillX f = (i : Int) ∧ f.slots[i]? = some x ∧ x.out = 0 := by
  unfold fillX idxOf
  cases h : f.slots.findIdx? fun s => decide (s.out = 0) with
  | none => exact .inl rfl
  | some i =>
    obtain ⟨hi, h2, _⟩ := List.findIdx?_eq_some_iff_getElem.1 h
    exact .inr ⟨i, _, rfl, List.getElem?_eq_getElem hi, by simpa using h2⟩
theorem f100 (f : Form) (g : FormG f) (H : Heap) : cal (evC cprog) false 100 [eSlots f.slots, .fn 101 []] H = some (.int .i64 (fillX f), H) :=
  indexFunc_ok (sz := 7) (ag := true) at100 _ _ lSlot 101 [] _ H _ f.slots (sSlots _ _) (by have := g.sl; omega) fun s _ => f101 s H
theorem show_lt {f : Form} {l : List ByteArray} (he : showE f l = 0) : (∀ s ∈ f.slots, s.out < (l.length : Int)) ∧ l.any badT = false := by
  have hok : (l.length : Int) = mxI Slot.out f.slots ∧ l.any badT = false := by
    unfold showE at he
    split at he
    · assumption
    · cases he
  refine ⟨fun s h => ?_, hok.2⟩
  rw [hok.1]
  have := (mx_ge Slot.out f.slots 0).2.1 s h
  unfold mxI
  omega
def kP (S n : Nat) : Nat := max 1 ((S + n - 1) / n)
theorem kP_uniq {S n k : Nat} (hn : 1 ≤ n) (h1 : 1 ≤ k) (h2 : S ≤ k * n) (h3 : k = 1 ∨ (k - 1) * n < S) : kP S n = k := by
  unfold kP
  rcases h3 with rfl | h3
  · have : (S + n - 1) / n ≤ 1 := by
      rw [← Nat.lt_succ_iff, Nat.div_lt_iff_lt_mul (by omega)]
      omega
    omega
  · obtain ⟨j, rfl⟩ : ∃ j, k = j + 1 := ⟨k - 1, by omega⟩
    rw [Nat.add_sub_cancel] at h3
    rw [Nat.succ_mul] at h2
    have : (S + n - 1) / n = j + 1 := by
      refine Nat.div_eq_of_lt_le ?_ ?_
      · rw [Nat.succ_mul]; omega
      · rw [Nat.succ_mul, Nat.succ_mul]; omega
    omega
theorem kP_one (S n : Nat) : 1 ≤ kP S n := Nat.le_max_left _ _
theorem kP_reach {S n : Nat} (hn : 1 ≤ n) : S ≤ kP S n * n := by
  have h1 : (S + n - 1) / n ≤ kP S n := Nat.le_max_right _ _
  have h2 := Nat.mul_le_mul_right n h1
  have h3 := Nat.div_add_mod (S + n - 1) n
  have h4 := Nat.mod_lt (S + n - 1) (show 0 < n by omega)
  rw [Nat.mul_comm] at h3
  omega
/-- what Pages answers -/
noncomputable def pagE (f : Form) (l : List ByteArray) : Int := if showE f l = 0 then if 0 ≤ fillX f then 0 else 2 else showE f l
noncomputable def pagN (f : Form) : Nat := match f.slots[(fillX f).toNat]? with
  | some x => x.bytes.toNat
  | none => 0
noncomputable def pagL (f : Form) (l : List ByteArray) : List (List ByteArray) := pagesL f l (pagN f) (kP (rowP l 0).size (pagN f))
set_option maxHeartbeats 8000000 in
theorem f54 (f : Form) (g : FormG f) (l : List ByteArray) (hl : l.length ≤ 1000) (hs : ∀ s ∈ l, s.size < 9223372036854775807) (H : Heap) :
    cal (evC cprog) true 54 [eForm f, eStrs l] H = some (.tup [ePages (if pagE f l = 0 then pagL f l else []), .int .i64 (pagE f l)], H) := by
  rw [cal_of at54]
  have h44 := f44 f g l (by omega) hs
  have h100 := f100 f g
  simp only [eForm] at h44
  by_cases he : showE f l = 0
  · rw [he] at h44
    obtain ⟨hlt, hbad⟩ := show_lt he
    rcases fill_cases f with hi | ⟨i, x, hi, hxi, hx0⟩
    · have e : pagE f l = 2 := by unfold pagE; rw [if_pos he, hi]; rfl
      rw [e, if_neg (by omega)]
      rw [hi] at h100
      simp only [c54, eForm, h44, h100, evX, Int.reduceEq, Int.reduceLT, Int.reduceLE, Nat.reduceMul, Nat.reduceMod, evW, fn_eq, evR, Nat.reduceAdd, Nat.reduceLT, Nat.reduceLeDiff, reduceIte, Nat.reduceEqDiff, reduceCtorEq, argEnv, eq_self, if_true, if_false]
      repeat' ((first | rw [guardK_cases] | rw [condK_bool] | rw [guardD_cases]); split <;> simp only [c54, eForm, h44, h100, evX, Int.reduceEq, Int.reduceLT, Int.reduceLE, Nat.reduceMul, Nat.reduceMod, evW, evR, Nat.reduceAdd, Nat.reduceLT, Nat.reduceLeDiff, reduceIte, Nat.reduceEqDiff, reduceCtorEq, argEnv, eq_self, if_true, if_false, *])
      exact frz_two (fz_nils _) rfl (by simp) (by simp) _ _
    · have e : pagE f l = 0 := by unfold pagE; rw [if_pos he, hi, if_pos (by omega)]
      rw [e, if_pos rfl]
      have ha := aSlot hxi
      have hi0 : ¬ (i : Int) < 0 := by omega
      have hm := List.mem_of_getElem? hxi
      obtain ⟨_, _, _, _, _, s1, s2, s3, s4, s5⟩ := g.slotAt hm
      have hch := g.chi
      have h0 : 0 < l.length := by have := hlt x hm; omega
      have hl0 := rowP_lt h0
      have a0 : iaddrK 1 (some (eStrs l)) (some (.int .i64 0)) = some (.fptr (rS (rowP l 0))) := aS hl0
      obtain ⟨n, hn⟩ : ∃ n : Nat, x.bytes = (n : Int) := ⟨x.bytes.toNat, (Int.toNat_of_nonneg (by omega)).symm⟩
      have hpn : pagN f = n := by unfold pagN; rw [hi, Int.toNat_natCast, hxi]; simp only; rw [hn, Int.toNat_natCast]
      unfold pagL
      rw [hpn]
      obtain ⟨K, hK⟩ : ∃ K : Heap, K = H ++ [bForm f] := ⟨_, rfl⟩
      have kl : K.length = H.length + 1 := by rw [hK]; simp
      have kt : ∀ Z, (K ++ Z).take H.length = H := fun Z => by rw [hK]; simp
      have kb : Sits K H.length (bForm f) := by rw [hK]; exact Sits.mk (by simp)
      have L := fun st hE hH z hz => l54_0 f g l hlt hbad h0 hl n (by omega) (by omega) H.length K kb st hE hH z hz
      rw [hi] at h100
      simp only [c54, eForm, h44, h100, hi0, ha, rSlot, hn, a0, rS, evX, Int.reduceEq, Int.reduceLT, Int.reduceLE, Nat.reduceMul, Nat.reduceMod, evW, fn_eq, evR, Nat.reduceAdd, Nat.reduceLT, Nat.reduceLeDiff, reduceIte, Nat.reduceEqDiff, reduceCtorEq, argEnv, eq_self, if_true, if_false]
      repeat' ((first | rw [guardK_cases] | rw [condK_bool] | rw [guardD_cases]); split <;> simp only [c54, eForm, h44, h100, hi0, ha, rSlot, hn, a0, rS, evX, Int.reduceEq, Int.reduceLT, Int.reduceLE, Nat.reduceMul, Nat.reduceMod, evW, evR, Nat.reduceAdd, Nat.reduceLT, Nat.reduceLeDiff, reduceIte, Nat.reduceEqDiff, reduceCtorEq, argEnv, eq_self, if_true, if_false, *])
      generalize hz : itLim _ _ = z
      obtain ⟨k, T, X, rv, rfl, hT, hO, k1, k2, k3, k4⟩ := L _ (by rfl) (by rw [hK]; simp [bForm, eForm]) z hz
      rw [kP_uniq (by omega) k1 k2 k3]
      obtain ⟨ids, g1, g2, g3⟩ := fz_out' hO K rfl (plain_P _)
      have ht := kt X
      have htup := out_tup hO
      generalize K ++ X = Z at *
      simp only [hT, htup, evX, Int.reduceEq, Int.reduceLT, Int.reduceLE, Nat.reduceMul, Nat.reduceMod, evW, fn_eq, evR, Nat.reduceAdd, Nat.reduceLT, Nat.reduceLeDiff, reduceIte, Nat.reduceEqDiff, reduceCtorEq, argEnv, eq_self, if_true, if_false]
      repeat' ((first | rw [guardK_cases] | rw [condK_bool] | rw [guardD_cases]); split <;> simp only [hT, htup, evX, Int.reduceEq, Int.reduceLT, Int.reduceLE, Nat.reduceMul, Nat.reduceMod, evW, evR, Nat.reduceAdd, Nat.reduceLT, Nat.reduceLeDiff, reduceIte, Nat.reduceEqDiff, reduceCtorEq, argEnv, eq_self, if_true, if_false, *])
      exact frz_two g1 g3 ht (fun x hx => by have := g2 x hx; omega) _ _
  · have e : pagE f l = showE f l := if_neg he
    rw [e, if_neg he]
    have he' : (showE f l = 0) = False := eq_false he
    simp only [c54, eForm, h44, he', evX, Int.reduceEq, Int.reduceLT, Int.reduceLE, Nat.reduceMul, Nat.reduceMod, evW, fn_eq, evR, Nat.reduceAdd, Nat.reduceLT, Nat.reduceLeDiff, reduceIte, Nat.reduceEqDiff, reduceCtorEq, argEnv, eq_self, if_true, if_false]
    repeat' ((first | rw [guardK_cases] | rw [condK_bool] | rw [guardD_cases]); split <;> simp only [c54, eForm, h44, he', evX, Int.reduceEq, Int.reduceLT, Int.reduceLE, Nat.reduceMul, Nat.reduceMod, evW, evR, Nat.reduceAdd, Nat.reduceLT, Nat.reduceLeDiff, reduceIte, Nat.reduceEqDiff, reduceCtorEq, argEnv, eq_self, if_true, if_false, *])
    exact frz_two (fz_nils _) rfl (by simp) (by simp) _ _
end Go.Proofs.Ytondenmkhfignaa.Code

/- screen: the pages joined (mathematics). -/
set_option linter.unusedSimpArgs false
set_option linter.unusedVariables false
namespace Go.Proofs.Ytondenmkhfignaa.Code
open Go.Proofs.Ytondenmkhfignaa.Ev

theorem base_pic {f : Form} (g : FormG f) : PicF f (baseP f) :=
  ⟨base_dim g, marks_txt g _ (fun _ h => h) _ (blank_dim f) (fun s hs => by
    unfold blankP at hs
    rw [(List.mem_replicate.1 hs).2]
    exact repB_txt (by decide) _), fun _ _ _ _ _ => rfl⟩
theorem show_pic {f : Form} (g : FormG f) {l : List ByteArray} (hb : l.any badT = false) : PicF f (showP f l) :=
  lays_pic (apart_of g) f.slots (fun _ h => h) (fun s hs => ⟨filled_size s _, filled_txt (g.slotAt hs).2.2.2.2.1 (txt_ok (f := f) hb s).2⟩) _ (base_pic g)
theorem read_show {f : Form} (g : FormG f) (l : List ByteArray) {s : Slot} (hs : s ∈ f.slots) : rdG (showP f l) s = filledB s (txtOf l s) :=
  read_lays (apart_of g) (fun s _ => filled_size s _) (base_dim g) hs
theorem page_read {f : Form} (g : FormG f) {l : List ByteArray} (h0 : 0 < l.length) {x : Slot} (hx : x ∈ f.slots) (hx0 : x.out = 0) (n k : Nat) : rdG (pageP f l n k) x = filledB x (pieceB (rowP l 0) n k) := by
  unfold pageP
  rw [read_show g _ hx]
  unfold txtOf
  rw [hx0, if_neg (by omega), show (0 : Int).toNat = 0 from rfl]
  congr 1
  exact rowP_at (List.getElem?_set_self h0)
theorem out_one {f : Form} (g : FormG f) {i j : Nat} {s t : Slot} (hi : f.slots[i]? = some s) (hj : f.slots[j]? = some t) (h : s.out = t.out) (h0 : 0 ≤ s.out) : i = j := by
  have key : ∀ (i j : Nat) (s t : Slot), f.slots[i]? = some s → f.slots[j]? = some t → s.out = t.out → 0 ≤ s.out → ¬ i < j := fun i j s t hi hj h h0 hij => by
    obtain ⟨_, _, _, _, _, _, hc⟩ := slot_parts (g.slot j t hj)
    have := List.any_eq_false.1 hc s (List.mem_of_getElem? (by rw [List.getElem?_take, if_pos hij]; exact hi))
    apply this
    unfold clash
    rw [decide_eq_true (show 0 ≤ t.out by omega), decide_eq_true h]
    simp
  have h1 := key i j s t hi hj h h0
  have h2 := key j i t s hj hi h.symm (by omega)
  omega
/-- the pieces as they stand on the pages, joined -/
def catB (x : Slot) (T : ByteArray) (n : Nat) : Nat → ByteArray
  | 0 => ⟨#[]⟩
  | k + 1 => catB x T n k ++ filledB x (pieceB T n k)
theorem cat_size (x : Slot) (T : ByteArray) {n : Nat} (hn : x.bytes.toNat = n) : ∀ k, (catB x T n k).size = k * n
  | 0 => by rw [Nat.zero_mul]; rfl
  | k + 1 => by rw [catB, ← size_eq, app_list, List.length_append, size_eq, size_eq, cat_size x T hn k, filled_size, hn, Nat.succ_mul]
theorem piece_list (T : ByteArray) (n k : Nat) : (pieceB T n k).data.toList = (T.data.toList.take (offs n T.size (k + 1))).drop (offs n T.size k) := ext_list _ _ _
theorem filled_take (x : Slot) (t : ByteArray) (h : t.size ≤ x.bytes.toNat) : (filledB x t).data.toList.take t.size = t.data.toList := by
  unfold filledB
  split
  · rw [ext_list, List.drop_zero, List.take_take, List.take_of_length_le (by rw [size_eq]; omega)]
  · rw [app_list, List.take_append_of_le_length (by rw [size_eq]; exact Nat.le_refl _), List.take_of_length_le (by rw [size_eq]; exact Nat.le_refl _)]
theorem piece_size (T : ByteArray) (n k : Nat) : (pieceB T n k).size = offs n T.size (k + 1) - offs n T.size k := by
  rw [← size_eq, piece_list, List.length_drop, List.length_take, size_eq]
  have := offs_le n T.size (k + 1)
  omega
theorem cat_take (x : Slot) (T : ByteArray) {n : Nat} (hn : x.bytes.toNat = n) : ∀ k, (catB x T n k).data.toList.take (offs n T.size k) = T.data.toList.take (offs n T.size k)
  | 0 => by unfold offs; simp
  | k + 1 => by
    have ih := cat_take x T hn k
    have hs := cat_size x T hn k
    have hl : (catB x T n k).data.toList.length = k * n := by rw [size_eq, hs]
    have hp := piece_size T n k
    have hsuc := offs_succ n T.size k
    have ho : offs n T.size k = min (k * n) T.size := rfl
    rw [catB, app_list]
    by_cases c : k * n ≤ T.size
    · have e : offs n T.size k = k * n := by omega
      rw [List.take_append, hl, List.take_of_length_le (by rw [hl]; omega), show offs n T.size (k + 1) - k * n = (pieceB T n k).size by omega, filled_take x _ (by omega), piece_list, e]
      rw [e, List.take_of_length_le (by rw [hl]; exact Nat.le_refl _)] at ih
      rw [ih]
      have key := List.take_append_drop (k * n) (T.data.toList.take (offs n T.size (k + 1)))
      rw [List.take_take, show min (k * n) (offs n T.size (k + 1)) = k * n by omega] at key
      exact key
    · have e : offs n T.size k = T.size := by omega
      have e2 : offs n T.size (k + 1) = T.size := by have := offs_le n T.size (k + 1); omega
      rw [e2, List.take_append_of_le_length (by rw [hl]; omega)]
      rw [e] at ih
      exact ih
theorem cat_slc (x : Slot) (T : ByteArray) {n k : Nat} (hn : x.bytes.toNat = n) (hk : T.size ≤ k * n) : evSlcs (catB x T n k) none (some T.size) = some (.str T) := by
  have h := cat_take x T hn k
  have hs := cat_size x T hn k
  have e : offs n T.size k = T.size := by unfold offs; omega
  rw [e] at h
  unfold evSlcs
  simp only [Option.getD_some, Option.getD_none]
  rw [if_pos ⟨by omega, by omega⟩]
  refine congrArg some (congrArg AV.str (bytes_ext ?_))
  rw [ext_list, List.drop_zero, h, List.take_of_length_le (by rw [size_eq]; exact Nat.le_refl _)]
end Go.Proofs.Ytondenmkhfignaa.Code

/- screen: paged, the field that is filled. -/
set_option linter.unusedSimpArgs false
set_option linter.unusedVariables false
namespace Go.Proofs.Ytondenmkhfignaa.Code
open Go.Proofs.Ytondenmkhfignaa.Ev

set_option maxHeartbeats 4000000 in
theorem l16_0 (f : Form) (g : FormG f) (l : List ByteArray) (b : Nat) (K : Heap) (hb : Sits K b (bForm f)) (st : St) (hE : keepEnv st.1 [1, 2, 5, 6] = [(1, eStrs l), (2, .ptr b 0 4 0 0), (5, .int .i64 (-1)), (6, .int .i64 0)]) (hH : st.2 = K) (z : Option (CX × St)) (hz : itLim (evCode (evC cprog) itLim c16_l0) st = z) :
    ∃ T, z = some (.exit 0, T, K) ∧ keepEnv T [1, 2, 5] = [(1, eStrs l), (2, .ptr b 0 4 0 0), (5, .int .i64 (fillX f))] := by
  have hsl := g.sl
  have hl2 := (sSlots [] f.slots).len
  simp only [List.length_map] at hl2

  have hb0 := hb.at
  simp only [bForm, Sits] at hb0
  have L := loop_rule (σ := Nat × Int) (m := [1, 2, 5, 6]) (env := fun s => [(1, eStrs l), (2, .ptr b 0 4 0 0), (5, .int .i64 s.2), (6, .int .i64 (s.1 : Int))]) (hp := fun s => K)
    (P := fun _ r => ∃ T, r = (.exit 0, T, K) ∧ keepEnv T [1, 2, 5] = [(1, eStrs l), (2, .ptr b 0 4 0 0), (5, .int .i64 (fillX f))])
    (mu := fun s => f.slots.length - s.1) (I := fun s => s.1 ≤ f.slots.length ∧ (∀ (j : Nat) (x : Slot), j < s.1 → f.slots[j]? = some x → x.out = 0 → s.2 = (j : Int)) ∧ (s.2 = -1 ∨ ∃ (j : Nat) (x : Slot), s.2 = (j : Int) ∧ f.slots[j]? = some x ∧ x.out = 0)) (evCode (evC cprog) itLim c16_l0) ?_ (0, -1) st ⟨Nat.zero_le _, fun j x h => by simp at h, .inl rfl⟩ hE hH z hz
  · obtain ⟨_, rfl, T, rfl, h⟩ := L
    exact ⟨T, rfl, h⟩
  · rintro ⟨i, v⟩ ⟨hi', hI1, hI2⟩ E hE
    simp only at hi' hI1 hI2 hE ⊢
    by_cases hlt : i < f.slots.length
    · obtain ⟨x, hx⟩ : ∃ x, f.slots[i]? = some x := ⟨_, List.getElem?_eq_getElem hlt⟩
      have hi : (i : Int) < (f.slots.length : Int) := by omega
      have ha := aSlot hx
      have hw := wrapS hlt (by omega)
      by_cases c : x.out = 0
      · have c' : (x.out = 0) = True := eq_true c
        have hn : ∀ (j : Nat) (y : Slot), j < i + 1 → f.slots[j]? = some y → y.out = 0 → (i : Int) = (j : Int) := fun j y _ hj hy => by
          rw [out_one g hx hj (by omega) (by omega)]
        have hn2 : (i : Int) = -1 ∨ ∃ (j : Nat) (x : Slot), (i : Int) = (j : Int) ∧ f.slots[j]? = some x ∧ x.out = 0 := .inr ⟨i, x, rfl, hx, c⟩
        clear hI1 hI2 c
        simp only [c16_l0, hE, hb0, hi, hl2, ha, rSlot, c', hw, evX, Int.reduceEq, Int.reduceLT, Int.reduceLE, Nat.reduceMul, Nat.reduceMod, evW, fn_eq, evR, Nat.reduceAdd, Nat.reduceLT, Nat.reduceLeDiff, reduceIte, Nat.reduceEqDiff, reduceCtorEq, argEnv, eq_self, if_true, if_false]
        repeat' ((first | rw [guardK_cases] | rw [condK_bool] | rw [guardD_cases]); split <;> simp only [c16_l0, hE, hb0, hi, hl2, ha, rSlot, c', hw, evX, Int.reduceEq, Int.reduceLT, Int.reduceLE, Nat.reduceMul, Nat.reduceMod, evW, evR, Nat.reduceAdd, Nat.reduceLT, Nat.reduceLeDiff, reduceIte, Nat.reduceEqDiff, reduceCtorEq, argEnv, eq_self, if_true, if_false, *])
        exact q_next (i + 1, (i : Int)) (by rfl) rfl ⟨hlt, hn, hn2⟩ (by show f.slots.length - (i + 1) < f.slots.length - i; omega) fun _ h => h
      · have c' : (x.out = 0) = False := eq_false c
        have hn : ∀ (j : Nat) (y : Slot), j < i + 1 → f.slots[j]? = some y → y.out = 0 → v = (j : Int) := fun j y hj hy h0 => by
          rcases Nat.lt_or_ge j i with h | h
          · exact hI1 j y h hy h0
          · obtain rfl : j = i := by omega
            rw [hx] at hy
            cases hy
            exact absurd h0 c
        clear hI1 c
        simp only [c16_l0, hE, hb0, hi, hl2, ha, rSlot, c', hw, evX, Int.reduceEq, Int.reduceLT, Int.reduceLE, Nat.reduceMul, Nat.reduceMod, evW, fn_eq, evR, Nat.reduceAdd, Nat.reduceLT, Nat.reduceLeDiff, reduceIte, Nat.reduceEqDiff, reduceCtorEq, argEnv, eq_self, if_true, if_false]
        repeat' ((first | rw [guardK_cases] | rw [condK_bool] | rw [guardD_cases]); split <;> simp only [c16_l0, hE, hb0, hi, hl2, ha, rSlot, c', hw, evX, Int.reduceEq, Int.reduceLT, Int.reduceLE, Nat.reduceMul, Nat.reduceMod, evW, evR, Nat.reduceAdd, Nat.reduceLT, Nat.reduceLeDiff, reduceIte, Nat.reduceEqDiff, reduceCtorEq, argEnv, eq_self, if_true, if_false, *])
        exact q_next (i + 1, v) (by rfl) rfl ⟨hlt, hn, hI2⟩ (by show f.slots.length - (i + 1) < f.slots.length - i; omega) fun _ h => h
    · obtain rfl : i = f.slots.length := by omega
      have hv : v = fillX f := by
        rcases fill_cases f with h | ⟨j, x, h, hj, hx⟩
        · rcases hI2 with h2 | ⟨j, x, h2, hj, hx⟩
          · rw [h, h2]
          · exfalso
            unfold fillX idxOf at h
            cases hf : f.slots.findIdx? fun s => decide (s.out = 0) with
            | none =>
              have := List.findIdx?_eq_none_iff.1 hf x (List.mem_of_getElem? hj)
              simp [hx] at this
            | some k => rw [hf] at h; simp only at h; omega
        · rw [h]
          exact hI1 j x (List.getElem?_eq_some_iff.1 hj).1 hj hx
      clear hI1 hI2
      subst hv
      simp only [c16_l0, hE, hb0, hl2, Int.lt_irrefl, evX, Int.reduceEq, Int.reduceLT, Int.reduceLE, Nat.reduceMul, Nat.reduceMod, evW, fn_eq, evR, Nat.reduceAdd, Nat.reduceLT, Nat.reduceLeDiff, reduceIte, Nat.reduceEqDiff, reduceCtorEq, argEnv, eq_self, if_true, if_false]
      repeat' ((first | rw [guardK_cases] | rw [condK_bool] | rw [guardD_cases]); split <;> simp only [c16_l0, hE, hb0, hl2, Int.lt_irrefl, evX, Int.reduceEq, Int.reduceLT, Int.reduceLE, Nat.reduceMul, Nat.reduceMod, evW, evR, Nat.reduceAdd, Nat.reduceLT, Nat.reduceLeDiff, reduceIte, Nat.reduceEqDiff, reduceCtorEq, argEnv, eq_self, if_true, if_false, *])
      exact q_exit ⟨_, rfl, by rfl⟩
end Go.Proofs.Ytondenmkhfignaa.Code

/- screen: paged. -/
set_option linter.unusedSimpArgs false
set_option linter.unusedVariables false
namespace Go.Proofs.Ytondenmkhfignaa.Code
open Go.Proofs.Ytondenmkhfignaa.Ev

theorem aPage {q : List (List ByteArray)} {i : Nat} {p : List ByteArray} (hx : q[i]? = some p) : iaddrK 1 (some (ePages q)) (some (.int .i64 (i : Int))) = some (.fptr (rP p)) := lFp rP (fun _ => rfl) hx
theorem pages_at (f : Form) (l : List ByteArray) (n : Nat) {i k : Nat} (h : i < k) : (pagesL f l n k)[i]? = some (pageP f l n i) := by
  unfold pagesL
  rw [List.getElem?_map, List.getElem?_range h]
  rfl
theorem len_pages (f : Form) (l : List ByteArray) (n k : Nat) : lenK false (some (ePages (pagesL f l n k))) = some (.int .i64 (k : Int)) := by
  have h := (sLst rP (sz := 1) (fun _ => rfl) [] (pagesL f l n k)).len
  rw [List.length_map, show (pagesL f l n k).length = k by simp [pagesL]] at h
  exact h
set_option maxHeartbeats 4000000 in
theorem l16_1 (f : Form) (g : FormG f) (l : List ByteArray) (h0 : 0 < l.length) (hb : l.any badT = false) (x : Slot) (hx : x ∈ f.slots) (hx0 : x.out = 0) (n k : Nat) (hk : k ≤ 1000) (hn : x.bytes.toNat = n) (b c : Nat) (K : Heap) (hbf : Sits K b (bForm f)) (hbx : Sits K c (bSlot x)) (st : St) (hE : keepEnv st.1 [1, 2, 7, 8, 9, 10, 11] = [(1, eStrs l), (2, .ptr b 0 4 0 0), (7, ePages (pagesL f l n k)), (8, .int .i64 0), (9, .ptr c 0 7 0 0), (10, .str ⟨#[]⟩), (11, .int .i64 0)]) (hH : st.2 = K) (z : Option (CX × St)) (hz : itLim (evCode (evC cprog) itLim c16_l1) st = z) :
    ∃ T, z = some (.exit 2, T, K) ∧ keepEnv T [1, 7, 8, 9, 10] = [(1, eStrs l), (7, ePages (pagesL f l n k)), (8, .int .i64 0), (9, .ptr c 0 7 0 0), (10, .str (catB x (rowP l 0) n k))] := by
  have hl2 := len_pages f l n k
  have hb0 := hbf.at
  have hb1 := hbx.at
  simp only [bForm, bSlot, rSlot] at hb0 hb1
  have hb00 : badT (rowP l 0) = false := by simpa using List.any_eq_false.1 hb _ (List.mem_of_getElem? (rowP_lt h0))
  have L := loop_rule (σ := Nat) (m := [1, 2, 7, 8, 9, 10, 11]) (env := fun i => [(1, eStrs l), (2, .ptr b 0 4 0 0), (7, ePages (pagesL f l n k)), (8, .int .i64 0), (9, .ptr c 0 7 0 0), (10, .str (catB x (rowP l 0) n i)), (11, .int .i64 (i : Int))]) (hp := fun _ => K)
    (P := fun _ r => ∃ T, r = (.exit 2, T, K) ∧ keepEnv T [1, 7, 8, 9, 10] = [(1, eStrs l), (7, ePages (pagesL f l n k)), (8, .int .i64 0), (9, .ptr c 0 7 0 0), (10, .str (catB x (rowP l 0) n k))])
    (mu := fun i => k - i) (I := fun i => i ≤ k) (evCode (evC cprog) itLim c16_l1) ?_ 0 st (Nat.zero_le _) hE hH z hz
  · obtain ⟨_, rfl, T, rfl, h⟩ := L
    exact ⟨T, rfl, h⟩
  · intro i hi' E hE
    by_cases hlt : i < k
    · have hi : (i : Int) < (k : Int) := by omega
      have ha := aPage (pages_at f l n hlt)
      have hp : PicF f (pageP f l n i) := show_pic g (set_bad hb (piece_bad hb00 n i) 0)
      obtain ⟨_, _, p3, _, _⟩ := pic_len g hp
      obtain ⟨r1, r2, r3, r4, r5⟩ := read_slc g hp hx
      obtain ⟨_, _, _, _, _, s1, s2, s3, s4, s5⟩ := g.slotAt hx
      have hpl := (sStrs [] (pageP f l n i)).len
      rw [List.length_map, p3] at hpl
      have hcol : ((rowP (pageP f l n i) x.row.toNat).size : Int) = f.cols := by
        obtain ⟨q, hq, hqs, hrow⟩ := hp.dim.at (r := x.row.toNat) (by omega)
        have := g.clo
        rw [hrow, hqs]; omega
      have hcat : catB x (rowP l 0) n i ++ rdG (pageP f l n i) x = catB x (rowP l 0) n (i + 1) := by rw [page_read g h0 hx hx0]; rfl
      have hw := wrapS hlt (by omega)
      have hsz : (catB x (rowP l 0) n i).size + (rdG (pageP f l n i) x).size ≤ 9223372036854775807 := by
        have := g.chi
        have := Nat.mul_le_mul (show i ≤ 1000 by omega) (show n ≤ 40 by omega)
        rw [cat_size x _ hn, rd_size g hp hx]
        omega
      clear hp p3 s1 s2 s3 s4 s5 hb00 hz hbf hbx
      generalize rdG (pageP f l n i) x = rd at *
      generalize rowP (pageP f l n i) x.row.toNat = row at *
      generalize pageP f l n i = pg at *
      generalize pagesL f l n k = pgs at *
      generalize catB x (rowP l 0) n i = cb at *
      simp only [c16_l1, hE, hb0, hb1, hi, hl2, ha, rP, hpl, r1, r2, r3, r4, r5, rS, hcol, hcat, hsz, hw, p_slcs, slcsK_some, evX, Int.reduceEq, Int.reduceLT, Int.reduceLE, Nat.reduceMul, Nat.reduceMod, evW, fn_eq, evR, Nat.reduceAdd, Nat.reduceLT, Nat.reduceLeDiff, reduceIte, Nat.reduceEqDiff, reduceCtorEq, argEnv, eq_self, if_true, if_false]
      repeat' ((first | rw [guardK_cases] | rw [condK_bool] | rw [guardD_cases]); split <;> simp only [c16_l1, hE, hb0, hb1, hi, hl2, ha, rP, hpl, r1, r2, r3, r4, r5, rS, hcol, hcat, hsz, hw, p_slcs, slcsK_some, evX, Int.reduceEq, Int.reduceLT, Int.reduceLE, Nat.reduceMul, Nat.reduceMod, evW, evR, Nat.reduceAdd, Nat.reduceLT, Nat.reduceLeDiff, reduceIte, Nat.reduceEqDiff, reduceCtorEq, argEnv, eq_self, if_true, if_false, *])
      exact q_next (i + 1) (by rfl) rfl hlt (by show k - (i + 1) < k - i; omega) fun _ h => h
    · obtain rfl : i = k := by omega
      simp only [c16_l1, hE, hb0, hl2, Int.lt_irrefl, evX, Int.reduceEq, Int.reduceLT, Int.reduceLE, Nat.reduceMul, Nat.reduceMod, evW, fn_eq, evR, Nat.reduceAdd, Nat.reduceLT, Nat.reduceLeDiff, reduceIte, Nat.reduceEqDiff, reduceCtorEq, argEnv, eq_self, if_true, if_false]
      repeat' ((first | rw [guardK_cases] | rw [condK_bool] | rw [guardD_cases]); split <;> simp only [c16_l1, hE, hb0, hl2, Int.lt_irrefl, evX, Int.reduceEq, Int.reduceLT, Int.reduceLE, Nat.reduceMul, Nat.reduceMod, evW, evR, Nat.reduceAdd, Nat.reduceLT, Nat.reduceLeDiff, reduceIte, Nat.reduceEqDiff, reduceCtorEq, argEnv, eq_self, if_true, if_false, *])
      exact q_exit ⟨_, rfl, by rfl⟩
set_option maxHeartbeats 8000000 in
theorem f16 (f : Form) (g : FormG f) (l : List ByteArray) (hl : l.length ≤ 1000) (hs : ∀ s ∈ l, s.size < 9223372036854775807) (he : showE f l = 0) (H : Heap) : cal (evC cprog) false 16 [eForm f, eStrs l] H = some (.bool true, H) := by
  rw [cal_of at16]
  have h54 := f54 f g l hl hs
  obtain ⟨hlt, hbad⟩ := show_lt he
  have hcl : (eStrs l).cells = [eStrs l] := rfl
  have htl : (eStrs l).isTup = false := rfl
  have hpt : ∀ q, (ePages q).isTup = false := fun _ => rfl
  have L0 := fun st hE hH z hz => l16_0 f g l H.length (H ++ [bForm f]) (.mk (by simp)) st hE hH z hz
  have lk0 : (H ++ [bForm f]).length = H.length + 1 := by simp
  simp only [eForm] at h54
  simp only [c16, eForm, hcl, htl, evX, Int.reduceEq, Int.reduceLT, Int.reduceLE, Nat.reduceMul, Nat.reduceMod, evW, fn_eq, evR, Nat.reduceAdd, Nat.reduceLT, Nat.reduceLeDiff, reduceIte, Nat.reduceEqDiff, reduceCtorEq, argEnv, eq_self, if_true, if_false]
  repeat' ((first | rw [guardK_cases] | rw [condK_bool] | rw [guardD_cases]); split <;> simp only [c16, eForm, hcl, htl, evX, Int.reduceEq, Int.reduceLT, Int.reduceLE, Nat.reduceMul, Nat.reduceMod, evW, evR, Nat.reduceAdd, Nat.reduceLT, Nat.reduceLeDiff, reduceIte, Nat.reduceEqDiff, reduceCtorEq, argEnv, eq_self, if_true, if_false, *])
  generalize hz : itLim _ _ = z
  obtain ⟨T, rfl, hT⟩ := L0 _ (by rfl) (by simp [bForm]) z hz
  clear hz L0
  rcases fill_cases f with hi | ⟨i, x, hi, hxi, hx0⟩
  · have e : pagE f l = 2 := by unfold pagE; rw [if_pos he, hi]; rfl
    rw [e, if_neg (by omega)] at h54
    rw [hi] at hT
    simp only [hT, bForm, h54, hpt, evX, Int.reduceEq, Int.reduceLT, Int.reduceLE, Nat.reduceMul, Nat.reduceMod, evW, fn_eq, evR, Nat.reduceAdd, Nat.reduceLT, Nat.reduceLeDiff, reduceIte, Nat.reduceEqDiff, reduceCtorEq, argEnv, eq_self, if_true, if_false]
    repeat' ((first | rw [guardK_cases] | rw [condK_bool] | rw [guardD_cases]); split <;> simp only [hT, bForm, h54, hpt, evX, Int.reduceEq, Int.reduceLT, Int.reduceLE, Nat.reduceMul, Nat.reduceMod, evW, evR, Nat.reduceAdd, Nat.reduceLT, Nat.reduceLeDiff, reduceIte, Nat.reduceEqDiff, reduceCtorEq, argEnv, eq_self, if_true, if_false, *])
  · have e : pagE f l = 0 := by unfold pagE; rw [if_pos he, hi, if_pos (by omega)]
    rw [e, if_pos rfl] at h54
    rw [hi] at hT
    have ha := aSlot hxi
    have hi0 : ¬ (i : Int) < 0 := by omega
    have hm := List.mem_of_getElem? hxi
    obtain ⟨_, _, _, _, _, s1, s2, s3, s4, s5⟩ := g.slotAt hm
    have hch := g.chi
    have h0 : 0 < l.length := by have := hlt x hm; omega
    have a0 : iaddrK 1 (some (eStrs l)) (some (.int .i64 0)) = some (.fptr (rS (rowP l 0))) := aS (rowP_lt h0)
    obtain ⟨n, hn⟩ : ∃ n, x.bytes.toNat = n := ⟨_, rfl⟩
    have hpn : pagN f = n := by unfold pagN; rw [hi, Int.toNat_natCast, hxi]; exact hn
    obtain ⟨k, hk⟩ : ∃ k, kP (rowP l 0).size n = k := ⟨_, rfl⟩
    have hk1 := kP_one (rowP l 0).size n
    have hk2 := kP_reach (S := (rowP l 0).size) (n := n) (by omega)
    have hTs : (rowP l 0).size ≤ 200 := by
      have : badT (rowP l 0) = false := by simpa using List.any_eq_false.1 hbad _ (List.mem_of_getElem? (rowP_lt h0))
      unfold badT at this
      simp only [Bool.or_eq_false_iff, decide_eq_false_iff_not] at this
      omega
    have hk3 : k = 1 ∨ (k - 1) * n < (rowP l 0).size := by
      rw [← hk]
      unfold kP
      by_cases c : ((rowP l 0).size + n - 1) / n ≤ 1
      · exact .inl (by omega)
      · refine .inr ?_
        have h3 := Nat.div_mul_le_self ((rowP l 0).size + n - 1) n
        have h4 := Nat.mul_le_mul_right n (show 2 ≤ ((rowP l 0).size + n - 1) / n by omega)
        rw [show max 1 (((rowP l 0).size + n - 1) / n) = ((rowP l 0).size + n - 1) / n by omega, Nat.sub_mul, Nat.one_mul]
        omega
    rw [hk] at hk1 hk2
    have hk4 : k ≤ 201 := by
      rcases hk3 with rfl | h
      · omega
      · have := Nat.le_mul_of_pos_right (k - 1) (show 0 < n by omega)
        omega
    have hcs := cat_size x (rowP l 0) hn k
    have hsl := cat_slc x (rowP l 0) hn hk2
    have hlen := len_pages f l n k
    have hge : ((rowP l 0).size : Int) ≤ ((catB x (rowP l 0) n k).size : Int) := by omega
    have hle : ((catB x (rowP l 0) n k).size : Int) - ((rowP l 0).size : Int) ≤ x.bytes := by
      rw [hcs]
      rcases hk3 with rfl | h
      · omega
      · rw [Nat.sub_mul, Nat.one_mul] at h
        omega
    have hkc : (1 : Int) ≤ (k : Int) := by omega
    have hws : IntKind.i64.wrap (((catB x (rowP l 0) n k).size : Int) - ((rowP l 0).size : Int)) = ((catB x (rowP l 0) n k).size : Int) - ((rowP l 0).size : Int) := wrap_i64 (by omega) (by omega)
    unfold pagL at h54
    rw [hpn, hk] at h54
    have L1 := fun st hE hH z hz => l16_1 f g l h0 hbad x hm hx0 n k (by omega) hn H.length (H.length + 1) (H ++ [bForm f, bSlot x]) (.mk (by simp)) (.mk (by simp)) st hE hH z hz
    simp only [hT, bForm, h54, hpt, hi0, ha, rSlot, evX, Int.reduceEq, Int.reduceLT, Int.reduceLE, Nat.reduceMul, Nat.reduceMod, evW, fn_eq, evR, Nat.reduceAdd, Nat.reduceLT, Nat.reduceLeDiff, reduceIte, Nat.reduceEqDiff, reduceCtorEq, argEnv, eq_self, if_true, if_false]
    repeat' ((first | rw [guardK_cases] | rw [condK_bool] | rw [guardD_cases]); split <;> simp only [hT, bForm, h54, hpt, hi0, ha, rSlot, evX, Int.reduceEq, Int.reduceLT, Int.reduceLE, Nat.reduceMul, Nat.reduceMod, evW, evR, Nat.reduceAdd, Nat.reduceLT, Nat.reduceLeDiff, reduceIte, Nat.reduceEqDiff, reduceCtorEq, argEnv, eq_self, if_true, if_false, *])
    generalize hz : itLim _ _ = z
    obtain ⟨T, rfl, hT⟩ := L1 _ (by rfl) (by simp [bForm, bSlot, rSlot]) z hz
    have hb1 : ∀ X, (H ++ (⟨0, true, 25, 4, [[.int .i64 f.rows, .int .i64 f.cols, eMarks f.marks, eSlots f.slots]]⟩ :: bSlot x :: X))[H.length + 1]? = some (bSlot x) := fun X => by simp
    clear hz L1 hk1 hk2 hk3 hk4 hk hcs h54
    generalize catB x (rowP l 0) n k = cb at *
    generalize pagesL f l n k = pgs at *
    generalize rowP l 0 = r0 at *
    simp only [bSlot, rSlot] at hb1
    simp only [hT, bForm, bSlot, rSlot, hb1, hlen, hkc, hge, hws, hle, hsl, a0, rS, p_slcs, slcsK_some, asNat_cast, evX, Int.reduceEq, Int.reduceLT, Int.reduceLE, Nat.reduceMul, Nat.reduceMod, evW, fn_eq, evR, Nat.reduceAdd, Nat.reduceLT, Nat.reduceLeDiff, reduceIte, Nat.reduceEqDiff, reduceCtorEq, argEnv, eq_self, if_true, if_false]
    repeat' ((first | rw [guardK_cases] | rw [condK_bool] | rw [guardD_cases]); split <;> simp only [hT, bForm, bSlot, rSlot, hb1, hlen, hkc, hge, hws, hle, hsl, a0, rS, p_slcs, slcsK_some, asNat_cast, evX, Int.reduceEq, Int.reduceLT, Int.reduceLE, Nat.reduceMul, Nat.reduceMod, evW, evR, Nat.reduceAdd, Nat.reduceLT, Nat.reduceLeDiff, reduceIte, Nat.reduceEqDiff, reduceCtorEq, argEnv, eq_self, if_true, if_false, *])
    done

end Go.Proofs.Ytondenmkhfignaa.Code

/- screen: Large, Long, Awake. -/
set_option linter.unusedSimpArgs false
set_option linter.unusedVariables false
namespace Go.Proofs.Ytondenmkhfignaa.Code
open Go.Proofs.Ytondenmkhfignaa.Ev

theorem first_run : evCall cprog 300 9 [] [] = some (.bool true, []) := by kernel_rfl
theorem closed_any {call it} {c : CFn} {b : Bool} (hc : c.closed = true) (h : evFn call it c [] [] = some (.bool b, [])) (H : Heap) : evFn call it c [] H = some (.bool b, H) := by
  unfold evFn at h ⊢
  rw [if_pos hc] at h ⊢
  simp only at h ⊢
  split at h
  · cases h; rfl
  · cases h
theorem f9 (H : Heap) : cal (evC cprog) false 9 [] H = some (.bool true, H) := by
  have h := evC_of first_run
  rw [evC_fn at9] at h
  rw [cal_of at9, closed_any rfl h H, calK_f, gc_same]
end Go.Proofs.Ytondenmkhfignaa.Code

/- screen: Large, Long. -/
set_option linter.unusedSimpArgs false
set_option linter.unusedVariables false
namespace Go.Proofs.Ytondenmkhfignaa.Code
open Go.Proofs.Ytondenmkhfignaa.Ev

def longS (s : ByteArray) : Bool := !decide ((300 : Int) < (s.size : Int))
theorem f7 (l : List ByteArray) (hl : l.length < 9223372036854775807) (H : Heap) : cal (evC cprog) false 7 [eStrs l] H = some (.bool (!l.all longS || decide ((20 : Int) < (l.length : Int))), H) := by
  rw [cal_of at7]
  have hlen := (sStrs [] l).len
  rw [List.length_map] at hlen
  have hcl : (eStrs l).cells = [eStrs l] := rfl
  have htl : (eStrs l).isTup = false := rfl
  simp only [c7, hcl, htl, evX, Int.reduceEq, Int.reduceLT, Int.reduceLE, Nat.reduceMul, Nat.reduceMod, evW, fn_eq, evR, Nat.reduceAdd, Nat.reduceLT, Nat.reduceLeDiff, reduceIte, Nat.reduceEqDiff, reduceCtorEq, argEnv, eq_self, if_true, if_false]
  repeat' ((first | rw [guardK_cases] | rw [condK_bool] | rw [guardD_cases]); split <;> simp only [c7, hcl, htl, evX, Int.reduceEq, Int.reduceLT, Int.reduceLE, Nat.reduceMul, Nat.reduceMod, evW, evR, Nat.reduceAdd, Nat.reduceLT, Nat.reduceLeDiff, reduceIte, Nat.reduceEqDiff, reduceCtorEq, argEnv, eq_self, if_true, if_false, *])
  generalize hz : itLim _ _ = z
  rcases all_rule l longS [0, 3] (fun i => [(0, eStrs l), (3, .int .i64 (i : Int))]) H [] (evCode (evC cprog) itLim c7_l0) (fun c T => c = .exit 0 ∧ keepEnv T [0] = [(0, eStrs l)]) (fun c T => c = .ret ∧ get T 2 = some (.bool true))
    (fun i t hx E G hE => by
      have hlt : i < l.length := (List.getElem?_eq_some_iff.1 hx).1
      have hi : (i : Int) < (l.length : Int) := by omega
      have ha := aS hx
      have hw := wrapS hlt hl
      unfold longS
      by_cases c : (300 : Int) < (t.size : Int)
      · rw [decide_eq_true c]
        simp only [c7_l0, hE, hi, hlen, ha, rS, c, evX, Int.reduceEq, Int.reduceLT, Int.reduceLE, Nat.reduceMul, Nat.reduceMod, evW, fn_eq, evR, Nat.reduceAdd, Nat.reduceLT, Nat.reduceLeDiff, reduceIte, Nat.reduceEqDiff, reduceCtorEq, argEnv, eq_self, if_true, if_false]
        repeat' ((first | rw [guardK_cases] | rw [condK_bool] | rw [guardD_cases]); split <;> simp only [c7_l0, hE, hi, hlen, ha, rS, c, evX, Int.reduceEq, Int.reduceLT, Int.reduceLE, Nat.reduceMul, Nat.reduceMod, evW, evR, Nat.reduceAdd, Nat.reduceLT, Nat.reduceLeDiff, reduceIte, Nat.reduceEqDiff, reduceCtorEq, argEnv, eq_self, if_true, if_false, *])
        exact Sc.ret rfl ⟨rfl, rfl⟩
      · rw [decide_eq_false c]
        simp only [c7_l0, hE, hi, hlen, ha, rS, c, hw, evX, Int.reduceEq, Int.reduceLT, Int.reduceLE, Nat.reduceMul, Nat.reduceMod, evW, fn_eq, evR, Nat.reduceAdd, Nat.reduceLT, Nat.reduceLeDiff, reduceIte, Nat.reduceEqDiff, reduceCtorEq, argEnv, eq_self, if_true, if_false]
        repeat' ((first | rw [guardK_cases] | rw [condK_bool] | rw [guardD_cases]); split <;> simp only [c7_l0, hE, hi, hlen, ha, rS, c, hw, evX, Int.reduceEq, Int.reduceLT, Int.reduceLE, Nat.reduceMul, Nat.reduceMod, evW, evR, Nat.reduceAdd, Nat.reduceLT, Nat.reduceLeDiff, reduceIte, Nat.reduceEqDiff, reduceCtorEq, argEnv, eq_self, if_true, if_false, *])
        exact Sc.next rfl (by rfl))
    (fun E G hE => by
      simp only [c7_l0, hE, hlen, Int.lt_irrefl, evX, Int.reduceEq, Int.reduceLT, Int.reduceLE, Nat.reduceMul, Nat.reduceMod, evW, fn_eq, evR, Nat.reduceAdd, Nat.reduceLT, Nat.reduceLeDiff, reduceIte, Nat.reduceEqDiff, reduceCtorEq, argEnv, eq_self, if_true, if_false]
      repeat' ((first | rw [guardK_cases] | rw [condK_bool] | rw [guardD_cases]); split <;> simp only [c7_l0, hE, hlen, Int.lt_irrefl, evX, Int.reduceEq, Int.reduceLT, Int.reduceLE, Nat.reduceMul, Nat.reduceMod, evW, evR, Nat.reduceAdd, Nat.reduceLT, Nat.reduceLeDiff, reduceIte, Nat.reduceEqDiff, reduceCtorEq, argEnv, eq_self, if_true, if_false, *])
      exact .exit (K := []) ⟨rfl, by rfl⟩) _ [] (by rfl) (by simp) z hz with ⟨h1, c, T, G', rfl, _, rfl, hT⟩ | ⟨h1, c, T, G', rfl, _, rfl, hT⟩
  · rw [h1]
    simp only [hT, hlen, evX, Int.reduceEq, Int.reduceLT, Int.reduceLE, Nat.reduceMul, Nat.reduceMod, evW, fn_eq, evR, Nat.reduceAdd, Nat.reduceLT, Nat.reduceLeDiff, reduceIte, Nat.reduceEqDiff, reduceCtorEq, argEnv, eq_self, if_true, if_false]
    repeat' ((first | rw [guardK_cases] | rw [condK_bool] | rw [guardD_cases]); split <;> simp only [hT, hlen, evX, Int.reduceEq, Int.reduceLT, Int.reduceLE, Nat.reduceMul, Nat.reduceMod, evW, evR, Nat.reduceAdd, Nat.reduceLT, Nat.reduceLeDiff, reduceIte, Nat.reduceEqDiff, reduceCtorEq, argEnv, eq_self, if_true, if_false, *])
    done
  · rw [h1]
    simp only [hT, evX, Int.reduceEq, Int.reduceLT, Int.reduceLE, Nat.reduceMul, Nat.reduceMod, evW, fn_eq, evR, Nat.reduceAdd, Nat.reduceLT, Nat.reduceLeDiff, reduceIte, Nat.reduceEqDiff, reduceCtorEq, argEnv, eq_self, if_true, if_false]
    repeat' ((first | rw [guardK_cases] | rw [condK_bool] | rw [guardD_cases]); split <;> simp only [hT, evX, Int.reduceEq, Int.reduceLT, Int.reduceLE, Nat.reduceMul, Nat.reduceMod, evW, evR, Nat.reduceAdd, Nat.reduceLT, Nat.reduceLeDiff, reduceIte, Nat.reduceEqDiff, reduceCtorEq, argEnv, eq_self, if_true, if_false, *])
    done
def lngM (m : Mark) : Bool := !decide ((100 : Int) < (m.text.size : Int))
def lngS (s : Slot) : Bool := !decide ((100 : Int) < (s.name.size : Int))
theorem l6_0 (f : Form) (hl : f.marks.length < 9223372036854775807) (K : Heap) (b : Nat) (hb : Sits K b (bForm f)) (st : St) (hE : keepEnv st.1 [1, 3] = [(1, .ptr b 0 4 0 0), (3, .int .i64 0)]) (hH : st.2 = K ++ ([] ++ [])) (z : Option (CX × St)) (hz : itLim (evCode (evC cprog) itLim c6_l0) st = z) :
    Lv K [] (fun c T => c = .exit 0 ∧ keepEnv T [1] = [(1, .ptr b 0 4 0 0)]) z ∨ Lv K [] (fun c T => c = .ret ∧ get T 2 = some (.bool true)) z := by
  have hlen := (sMarks [] f.marks).len
  rw [List.length_map] at hlen
  have hbf := hb
  simp only [bForm, Sits] at hbf
  rcases all_rule f.marks lngM [1, 3] (fun i => [(1, .ptr b 0 4 0 0), (3, .int .i64 (i : Int))]) K [] (evCode (evC cprog) itLim c6_l0) (fun c T => c = .exit 0 ∧ keepEnv T [1] = [(1, .ptr b 0 4 0 0)]) (fun c T => c = .ret ∧ get T 2 = some (.bool true))
    (fun i t hx E G hE => by
      have hlt : i < f.marks.length := (List.getElem?_eq_some_iff.1 hx).1
      have hi : (i : Int) < (f.marks.length : Int) := by omega
      have ha := aMark hx
      have hw := wrapS hlt hl
      unfold lngM
      by_cases c : (100 : Int) < (t.text.size : Int)
      · rw [decide_eq_true c]
        simp only [c6_l0, hE, hbf, hi, hlen, ha, rMark, c, evX, Int.reduceEq, Int.reduceLT, Int.reduceLE, Nat.reduceMul, Nat.reduceMod, evW, fn_eq, evR, Nat.reduceAdd, Nat.reduceLT, Nat.reduceLeDiff, reduceIte, Nat.reduceEqDiff, reduceCtorEq, argEnv, eq_self, if_true, if_false]
        repeat' ((first | rw [guardK_cases] | rw [condK_bool] | rw [guardD_cases]); split <;> simp only [c6_l0, hE, hbf, hi, hlen, ha, rMark, c, evX, Int.reduceEq, Int.reduceLT, Int.reduceLE, Nat.reduceMul, Nat.reduceMod, evW, evR, Nat.reduceAdd, Nat.reduceLT, Nat.reduceLeDiff, reduceIte, Nat.reduceEqDiff, reduceCtorEq, argEnv, eq_self, if_true, if_false, *])
        exact Sc.ret rfl ⟨rfl, rfl⟩
      · rw [decide_eq_false c]
        simp only [c6_l0, hE, hbf, hi, hlen, ha, rMark, c, hw, evX, Int.reduceEq, Int.reduceLT, Int.reduceLE, Nat.reduceMul, Nat.reduceMod, evW, fn_eq, evR, Nat.reduceAdd, Nat.reduceLT, Nat.reduceLeDiff, reduceIte, Nat.reduceEqDiff, reduceCtorEq, argEnv, eq_self, if_true, if_false]
        repeat' ((first | rw [guardK_cases] | rw [condK_bool] | rw [guardD_cases]); split <;> simp only [c6_l0, hE, hbf, hi, hlen, ha, rMark, c, hw, evX, Int.reduceEq, Int.reduceLT, Int.reduceLE, Nat.reduceMul, Nat.reduceMod, evW, evR, Nat.reduceAdd, Nat.reduceLT, Nat.reduceLeDiff, reduceIte, Nat.reduceEqDiff, reduceCtorEq, argEnv, eq_self, if_true, if_false, *])
        exact Sc.next rfl (by rfl))
    (fun E G hE => by
      simp only [c6_l0, hE, hbf, hlen, Int.lt_irrefl, evX, Int.reduceEq, Int.reduceLT, Int.reduceLE, Nat.reduceMul, Nat.reduceMod, evW, fn_eq, evR, Nat.reduceAdd, Nat.reduceLT, Nat.reduceLeDiff, reduceIte, Nat.reduceEqDiff, reduceCtorEq, argEnv, eq_self, if_true, if_false]
      repeat' ((first | rw [guardK_cases] | rw [condK_bool] | rw [guardD_cases]); split <;> simp only [c6_l0, hE, hbf, hlen, Int.lt_irrefl, evX, Int.reduceEq, Int.reduceLT, Int.reduceLE, Nat.reduceMul, Nat.reduceMod, evW, evR, Nat.reduceAdd, Nat.reduceLT, Nat.reduceLeDiff, reduceIte, Nat.reduceEqDiff, reduceCtorEq, argEnv, eq_self, if_true, if_false, *])
      exact .exit (K := []) ⟨rfl, by rfl⟩) st [] hE hH z hz with ⟨_, h⟩ | ⟨_, h⟩
  · exact .inl h
  · exact .inr h
theorem l6_1 (f : Form) (hl : f.slots.length < 9223372036854775807) (K : Heap) (b : Nat) (hb : Sits K b (bForm f)) (st : St) (hE : keepEnv st.1 [1, 4] = [(1, .ptr b 0 4 0 0), (4, .int .i64 0)]) (G0 : Heap) (hH : st.2 = K ++ ([] ++ G0)) (z : Option (CX × St)) (hz : itLim (evCode (evC cprog) itLim c6_l1) st = z) :
    Lv K [] (fun c T => c = .exit 2) z ∨ Lv K [] (fun c T => c = .ret ∧ get T 2 = some (.bool true)) z := by
  have hlen := (sSlots [] f.slots).len
  rw [List.length_map] at hlen
  have hbf := hb
  simp only [bForm, Sits] at hbf
  rcases all_rule f.slots lngS [1, 4] (fun i => [(1, .ptr b 0 4 0 0), (4, .int .i64 (i : Int))]) K [] (evCode (evC cprog) itLim c6_l1) (fun c T => c = .exit 2) (fun c T => c = .ret ∧ get T 2 = some (.bool true))
    (fun i t hx E G hE => by
      have hlt : i < f.slots.length := (List.getElem?_eq_some_iff.1 hx).1
      have hi : (i : Int) < (f.slots.length : Int) := by omega
      have ha := aSlot hx
      have hw := wrapS hlt hl
      unfold lngS
      by_cases c : (100 : Int) < (t.name.size : Int)
      · rw [decide_eq_true c]
        simp only [c6_l1, hE, hbf, hi, hlen, ha, rSlot, c, evX, Int.reduceEq, Int.reduceLT, Int.reduceLE, Nat.reduceMul, Nat.reduceMod, evW, fn_eq, evR, Nat.reduceAdd, Nat.reduceLT, Nat.reduceLeDiff, reduceIte, Nat.reduceEqDiff, reduceCtorEq, argEnv, eq_self, if_true, if_false]
        repeat' ((first | rw [guardK_cases] | rw [condK_bool] | rw [guardD_cases]); split <;> simp only [c6_l1, hE, hbf, hi, hlen, ha, rSlot, c, evX, Int.reduceEq, Int.reduceLT, Int.reduceLE, Nat.reduceMul, Nat.reduceMod, evW, evR, Nat.reduceAdd, Nat.reduceLT, Nat.reduceLeDiff, reduceIte, Nat.reduceEqDiff, reduceCtorEq, argEnv, eq_self, if_true, if_false, *])
        exact Sc.ret rfl ⟨rfl, rfl⟩
      · rw [decide_eq_false c]
        simp only [c6_l1, hE, hbf, hi, hlen, ha, rSlot, c, hw, evX, Int.reduceEq, Int.reduceLT, Int.reduceLE, Nat.reduceMul, Nat.reduceMod, evW, fn_eq, evR, Nat.reduceAdd, Nat.reduceLT, Nat.reduceLeDiff, reduceIte, Nat.reduceEqDiff, reduceCtorEq, argEnv, eq_self, if_true, if_false]
        repeat' ((first | rw [guardK_cases] | rw [condK_bool] | rw [guardD_cases]); split <;> simp only [c6_l1, hE, hbf, hi, hlen, ha, rSlot, c, hw, evX, Int.reduceEq, Int.reduceLT, Int.reduceLE, Nat.reduceMul, Nat.reduceMod, evW, evR, Nat.reduceAdd, Nat.reduceLT, Nat.reduceLeDiff, reduceIte, Nat.reduceEqDiff, reduceCtorEq, argEnv, eq_self, if_true, if_false, *])
        exact Sc.next rfl (by rfl))
    (fun E G hE => by
      simp only [c6_l1, hE, hbf, hlen, Int.lt_irrefl, evX, Int.reduceEq, Int.reduceLT, Int.reduceLE, Nat.reduceMul, Nat.reduceMod, evW, fn_eq, evR, Nat.reduceAdd, Nat.reduceLT, Nat.reduceLeDiff, reduceIte, Nat.reduceEqDiff, reduceCtorEq, argEnv, eq_self, if_true, if_false]
      repeat' ((first | rw [guardK_cases] | rw [condK_bool] | rw [guardD_cases]); split <;> simp only [c6_l1, hE, hbf, hlen, Int.lt_irrefl, evX, Int.reduceEq, Int.reduceLT, Int.reduceLE, Nat.reduceMul, Nat.reduceMod, evW, evR, Nat.reduceAdd, Nat.reduceLT, Nat.reduceLeDiff, reduceIte, Nat.reduceEqDiff, reduceCtorEq, argEnv, eq_self, if_true, if_false, *])
      exact .exit (K := []) rfl) st G0 hE hH z hz with ⟨_, h⟩ | ⟨_, h⟩
  · exact .inl h
  · exact .inr h
theorem f6 (f : Form) (h1 : f.marks.length < 9223372036854775807) (h2 : f.slots.length < 9223372036854775807) (H : Heap) : ∃ v, cal (evC cprog) false 6 [eForm f] H = some (.bool v, H) := by
  rw [cal_of at6]
  have hl1 := (sMarks [] f.marks).len
  have hl2 := (sSlots [] f.slots).len
  rw [List.length_map] at hl1 hl2
  obtain ⟨K, hK⟩ : ∃ K : Heap, K = H ++ [bForm f] := ⟨_, rfl⟩
  have kt : ∀ Z, (K ++ Z).take H.length = H := fun Z => by rw [hK]; simp
  have kb : Sits K H.length (bForm f) := by rw [hK]; exact .mk (by simp)
  have L0 := fun st hE hH z hz => l6_0 f h1 K H.length kb st hE hH z hz
  have L1 := fun st hE G hH z hz => l6_1 f h2 K H.length kb st hE G hH z hz
  by_cases c1 : (20 : Int) < (f.marks.length : Int)
  · refine ⟨true, ?_⟩
    simp only [c6, eForm, hl1, hl2, c1, evX, Int.reduceEq, Int.reduceLT, Int.reduceLE, Nat.reduceMul, Nat.reduceMod, evW, fn_eq, evR, Nat.reduceAdd, Nat.reduceLT, Nat.reduceLeDiff, reduceIte, Nat.reduceEqDiff, reduceCtorEq, argEnv, eq_self, if_true, if_false]
    repeat' ((first | rw [guardK_cases] | rw [condK_bool] | rw [guardD_cases]); split <;> simp only [c6, eForm, hl1, hl2, c1, evX, Int.reduceEq, Int.reduceLT, Int.reduceLE, Nat.reduceMul, Nat.reduceMod, evW, evR, Nat.reduceAdd, Nat.reduceLT, Nat.reduceLeDiff, reduceIte, Nat.reduceEqDiff, reduceCtorEq, argEnv, eq_self, if_true, if_false, *])
    done
  by_cases c2 : (20 : Int) < (f.slots.length : Int)
  · refine ⟨true, ?_⟩
    simp only [c6, eForm, hl1, hl2, c1, c2, evX, Int.reduceEq, Int.reduceLT, Int.reduceLE, Nat.reduceMul, Nat.reduceMod, evW, fn_eq, evR, Nat.reduceAdd, Nat.reduceLT, Nat.reduceLeDiff, reduceIte, Nat.reduceEqDiff, reduceCtorEq, argEnv, eq_self, if_true, if_false]
    repeat' ((first | rw [guardK_cases] | rw [condK_bool] | rw [guardD_cases]); split <;> simp only [c6, eForm, hl1, hl2, c1, c2, evX, Int.reduceEq, Int.reduceLT, Int.reduceLE, Nat.reduceMul, Nat.reduceMod, evW, evR, Nat.reduceAdd, Nat.reduceLT, Nat.reduceLeDiff, reduceIte, Nat.reduceEqDiff, reduceCtorEq, argEnv, eq_self, if_true, if_false, *])
    done
  simp only [c6, eForm, hl1, hl2, c1, c2, evX, Int.reduceEq, Int.reduceLT, Int.reduceLE, Nat.reduceMul, Nat.reduceMod, evW, fn_eq, evR, Nat.reduceAdd, Nat.reduceLT, Nat.reduceLeDiff, reduceIte, Nat.reduceEqDiff, reduceCtorEq, argEnv, eq_self, if_true, if_false]
  repeat' ((first | rw [guardK_cases] | rw [condK_bool] | rw [guardD_cases]); split <;> simp only [c6, eForm, hl1, hl2, c1, c2, evX, Int.reduceEq, Int.reduceLT, Int.reduceLE, Nat.reduceMul, Nat.reduceMod, evW, evR, Nat.reduceAdd, Nat.reduceLT, Nat.reduceLeDiff, reduceIte, Nat.reduceEqDiff, reduceCtorEq, argEnv, eq_self, if_true, if_false, *])
  generalize hz : itLim _ _ = z
  rcases L0 _ (by rfl) (by rw [hK]; simp [bForm]) z hz with ⟨c, T, G, rfl, _, rfl, hT⟩ | ⟨c, T, G, rfl, _, rfl, hT⟩
  · clear hz
    simp only [hT, evX, Int.reduceEq, Int.reduceLT, Int.reduceLE, Nat.reduceMul, Nat.reduceMod, evW, fn_eq, evR, Nat.reduceAdd, Nat.reduceLT, Nat.reduceLeDiff, reduceIte, Nat.reduceEqDiff, reduceCtorEq, argEnv, eq_self, if_true, if_false]
    repeat' ((first | rw [guardK_cases] | rw [condK_bool] | rw [guardD_cases]); split <;> simp only [hT, evX, Int.reduceEq, Int.reduceLT, Int.reduceLE, Nat.reduceMul, Nat.reduceMod, evW, evR, Nat.reduceAdd, Nat.reduceLT, Nat.reduceLeDiff, reduceIte, Nat.reduceEqDiff, reduceCtorEq, argEnv, eq_self, if_true, if_false, *])
    generalize hz : itLim _ _ = z
    rcases L1 _ (by rfl) _ (by simp; rfl) z hz with ⟨c, T, G, rfl, _, rfl⟩ | ⟨c, T, G, rfl, _, rfl, hT⟩
    · refine ⟨false, ?_⟩
      have ht := kt ([] ++ G)
      generalize K ++ ([] ++ G) = Z at *
      simp only [evX, Int.reduceEq, Int.reduceLT, Int.reduceLE, Nat.reduceMul, Nat.reduceMod, evW, fn_eq, evR, Nat.reduceAdd, Nat.reduceLT, Nat.reduceLeDiff, reduceIte, Nat.reduceEqDiff, reduceCtorEq, argEnv, eq_self, if_true, if_false]
      repeat' ((first | rw [guardK_cases] | rw [condK_bool] | rw [guardD_cases]); split <;> simp only [evX, Int.reduceEq, Int.reduceLT, Int.reduceLE, Nat.reduceMul, Nat.reduceMod, evW, evR, Nat.reduceAdd, Nat.reduceLT, Nat.reduceLeDiff, reduceIte, Nat.reduceEqDiff, reduceCtorEq, argEnv, eq_self, if_true, if_false, *])
      exact gc_fall rfl ht
    · refine ⟨true, ?_⟩
      have ht := kt ([] ++ G)
      generalize K ++ ([] ++ G) = Z at *
      simp only [hT, evX, Int.reduceEq, Int.reduceLT, Int.reduceLE, Nat.reduceMul, Nat.reduceMod, evW, fn_eq, evR, Nat.reduceAdd, Nat.reduceLT, Nat.reduceLeDiff, reduceIte, Nat.reduceEqDiff, reduceCtorEq, argEnv, eq_self, if_true, if_false]
      repeat' ((first | rw [guardK_cases] | rw [condK_bool] | rw [guardD_cases]); split <;> simp only [hT, evX, Int.reduceEq, Int.reduceLT, Int.reduceLE, Nat.reduceMul, Nat.reduceMod, evW, evR, Nat.reduceAdd, Nat.reduceLT, Nat.reduceLeDiff, reduceIte, Nat.reduceEqDiff, reduceCtorEq, argEnv, eq_self, if_true, if_false, *])
      exact gc_fall rfl ht
  · refine ⟨true, ?_⟩
    have ht := kt ([] ++ G)
    generalize K ++ ([] ++ G) = Z at *
    simp only [hT, evX, Int.reduceEq, Int.reduceLT, Int.reduceLE, Nat.reduceMul, Nat.reduceMod, evW, fn_eq, evR, Nat.reduceAdd, Nat.reduceLT, Nat.reduceLeDiff, reduceIte, Nat.reduceEqDiff, reduceCtorEq, argEnv, eq_self, if_true, if_false]
    repeat' ((first | rw [guardK_cases] | rw [condK_bool] | rw [guardD_cases]); split <;> simp only [hT, evX, Int.reduceEq, Int.reduceLT, Int.reduceLE, Nat.reduceMul, Nat.reduceMod, evW, evR, Nat.reduceAdd, Nat.reduceLT, Nat.reduceLeDiff, reduceIte, Nat.reduceEqDiff, reduceCtorEq, argEnv, eq_self, if_true, if_false, *])
    exact gc_fall rfl ht
end Go.Proofs.Ytondenmkhfignaa.Code

/- TopScreen. -/
set_option linter.unusedSimpArgs false
set_option linter.unusedVariables false
namespace Go.Proofs.Ytondenmkhfignaa.Code
open Go.Proofs.Ytondenmkhfignaa.Ev

structure Word where
  name : ByteArray
  text : ByteArray
def rWord (w : Word) : List AV := [.str w.name, .str w.text]
def eWords (l : List Word) : AV := .lst (l.map rWord)
theorem aWord {l : List Word} {i : Nat} {x : Word} (hx : l[i]? = some x) : iaddrK 2 (some (eWords l)) (some (.int .i64 (i : Int))) = some (.fptr (rWord x)) := lFp rWord (fun _ => rfl) hx
theorem sWords (H : Heap) (l : List Word) : SlAt H 2 (eWords l) (l.map rWord) := sLst rWord (fun _ => rfl) H l
set_option maxHeartbeats 4000000 in
theorem l3_0 (f : Form) (g : FormG f) (l : List ByteArray) (ws : List Word) (hw : ws.length < 9223372036854775807) (b : Nat) (K : Heap) (hb : Sits K b (bForm f)) (p0 : List ByteArray) (hp0 : PicF f p0) (st : St) (hE : keepEnv st.1 [1, 2, 3, 7, 14] = [(1, eStrs l), (2, eWords ws), (3, .ptr b 0 4 0 0), (7, eStrs p0), (14, .int .i64 0)]) (hH : st.2 = K) (z : Option (CX × St)) (hz : itLim (evCode (evC cprog) itLim c3_l0) st = z) :
    ∃ T c, z = some (c, T, K) ∧ ((c = .exit 0 ∧ keepEnv T [1, 3] = [(1, eStrs l), (3, .ptr b 0 4 0 0)]) ∨ (c = .ret ∧ get T 6 = some (.bool true))) := by
  have hlen := (sWords [] ws).len
  rw [List.length_map] at hlen
  have hb0 := hb.at
  simp only [bForm] at hb0
  have L := loop_rule (σ := Nat × List ByteArray) (m := [1, 2, 3, 7, 14]) (env := fun s => [(1, eStrs l), (2, eWords ws), (3, .ptr b 0 4 0 0), (7, eStrs s.2), (14, .int .i64 (s.1 : Int))]) (hp := fun _ => K)
    (P := fun _ r => ∃ T c, r = (c, T, K) ∧ ((c = .exit 0 ∧ keepEnv T [1, 3] = [(1, eStrs l), (3, .ptr b 0 4 0 0)]) ∨ (c = .ret ∧ get T 6 = some (.bool true))))
    (mu := fun s => ws.length - s.1) (I := fun s => s.1 ≤ ws.length ∧ PicF f s.2) (evCode (evC cprog) itLim c3_l0) ?_ (0, p0) st ⟨Nat.zero_le _, hp0⟩ hE hH z hz
  · obtain ⟨_, rfl, T, c, rfl, h⟩ := L
    exact ⟨T, c, rfl, h⟩
  · rintro ⟨i, p⟩ ⟨hi', hp⟩ E hE
    simp only at hi' hp hE ⊢
    by_cases hlt : i < ws.length
    · obtain ⟨x, hx⟩ : ∃ x, ws[i]? = some x := ⟨_, List.getElem?_eq_getElem hlt⟩
      have hi : (i : Int) < (ws.length : Int) := by omega
      have ha := aWord hx
      have hwr := wrapS hlt hw
      have h9 := f9
      by_cases c1 : (100 : Int) < (x.text.size : Int)
      · simp only [c3_l0, hE, hb0, hi, hlen, ha, rWord, c1, h9, evX, Int.reduceEq, Int.reduceLT, Int.reduceLE, Nat.reduceMul, Nat.reduceMod, evW, fn_eq, evR, Nat.reduceAdd, Nat.reduceLT, Nat.reduceLeDiff, reduceIte, Nat.reduceEqDiff, reduceCtorEq, argEnv, eq_self, if_true, if_false]
        repeat' ((first | rw [guardK_cases] | rw [condK_bool] | rw [guardD_cases]); split <;> simp only [c3_l0, hE, hb0, hi, hlen, ha, rWord, c1, h9, evX, Int.reduceEq, Int.reduceLT, Int.reduceLE, Nat.reduceMul, Nat.reduceMod, evW, evR, Nat.reduceAdd, Nat.reduceLT, Nat.reduceLeDiff, reduceIte, Nat.reduceEqDiff, reduceCtorEq, argEnv, eq_self, if_true, if_false, *])
        exact q_ret ⟨_, _, rfl, .inr ⟨rfl, rfl⟩⟩
      by_cases c2 : (100 : Int) < (x.name.size : Int)
      · simp only [c3_l0, hE, hb0, hi, hlen, ha, rWord, c1, c2, h9, evX, Int.reduceEq, Int.reduceLT, Int.reduceLE, Nat.reduceMul, Nat.reduceMod, evW, fn_eq, evR, Nat.reduceAdd, Nat.reduceLT, Nat.reduceLeDiff, reduceIte, Nat.reduceEqDiff, reduceCtorEq, argEnv, eq_self, if_true, if_false]
        repeat' ((first | rw [guardK_cases] | rw [condK_bool] | rw [guardD_cases]); split <;> simp only [c3_l0, hE, hb0, hi, hlen, ha, rWord, c1, c2, h9, evX, Int.reduceEq, Int.reduceLT, Int.reduceLE, Nat.reduceMul, Nat.reduceMod, evW, evR, Nat.reduceAdd, Nat.reduceLT, Nat.reduceLeDiff, reduceIte, Nat.reduceEqDiff, reduceCtorEq, argEnv, eq_self, if_true, if_false, *])
        exact q_ret ⟨_, _, rfl, .inr ⟨rfl, rfl⟩⟩
      obtain ⟨q, hq, h15⟩ := f15 f g p hp x.name x.text (by omega) K
      simp only [eForm] at h15
      simp only [c3_l0, hE, hb0, hi, hlen, ha, rWord, c1, c2, h15, hwr, evX, Int.reduceEq, Int.reduceLT, Int.reduceLE, Nat.reduceMul, Nat.reduceMod, evW, fn_eq, evR, Nat.reduceAdd, Nat.reduceLT, Nat.reduceLeDiff, reduceIte, Nat.reduceEqDiff, reduceCtorEq, argEnv, eq_self, if_true, if_false]
      repeat' ((first | rw [guardK_cases] | rw [condK_bool] | rw [guardD_cases]); split <;> simp only [c3_l0, hE, hb0, hi, hlen, ha, rWord, c1, c2, h15, hwr, evX, Int.reduceEq, Int.reduceLT, Int.reduceLE, Nat.reduceMul, Nat.reduceMod, evW, evR, Nat.reduceAdd, Nat.reduceLT, Nat.reduceLeDiff, reduceIte, Nat.reduceEqDiff, reduceCtorEq, argEnv, eq_self, if_true, if_false, *])
      exact q_next (i + 1, q) (by rfl) rfl ⟨hlt, hq⟩ (by show ws.length - (i + 1) < ws.length - i; omega) fun _ h => h
    · obtain rfl : i = ws.length := by omega
      simp only [c3_l0, hE, hlen, Int.lt_irrefl, evX, Int.reduceEq, Int.reduceLT, Int.reduceLE, Nat.reduceMul, Nat.reduceMod, evW, fn_eq, evR, Nat.reduceAdd, Nat.reduceLT, Nat.reduceLeDiff, reduceIte, Nat.reduceEqDiff, reduceCtorEq, argEnv, eq_self, if_true, if_false]
      repeat' ((first | rw [guardK_cases] | rw [condK_bool] | rw [guardD_cases]); split <;> simp only [c3_l0, hE, hlen, Int.lt_irrefl, evX, Int.reduceEq, Int.reduceLT, Int.reduceLE, Nat.reduceMul, Nat.reduceMod, evW, evR, Nat.reduceAdd, Nat.reduceLT, Nat.reduceLeDiff, reduceIte, Nat.reduceEqDiff, reduceCtorEq, argEnv, eq_self, if_true, if_false, *])
      exact q_exit ⟨_, _, rfl, .inl ⟨rfl, by rfl⟩⟩
set_option maxHeartbeats 8000000 in
theorem f3 (f : Form) (hf : f.Ok) (l : List ByteArray) (hl : l.length < 9223372036854775807) (ws : List Word) (hw : ws.length < 9223372036854775807) : ∃ H', evC cprog 3 [eForm f, eStrs l, eWords ws] [] = some (.bool true, H') := by
  have h6 := fun H => f6 f hf.marks hf.slots H
  have h7 := f7 l hl
  have h8 := f8 f hf
  have h9 := f9
  have hwl := (sWords [] ws).len
  rw [List.length_map] at hwl
  have hcl : (eStrs l).cells = [eStrs l] := rfl
  have htl : (eStrs l).isTup = false := rfl
  have hcw : (eWords ws).cells = [eWords ws] := rfl
  have htw : (eWords ws).isTup = false := rfl
  obtain ⟨v6, h6⟩ := h6 [bForm f]
  simp only [eForm, bForm] at h6 h8
  rw [evC_fn at3]
  cases v6 with
  | true =>
    simp only [c3, eForm, hcl, htl, hcw, htw, h6, h9, evX, Int.reduceEq, Int.reduceLT, Int.reduceLE, Nat.reduceMul, Nat.reduceMod, evW, fn_eq, evR, Nat.reduceAdd, Nat.reduceLT, Nat.reduceLeDiff, reduceIte, Nat.reduceEqDiff, reduceCtorEq, argEnv, eq_self, if_true, if_false]
    repeat' ((first | rw [guardK_cases] | rw [condK_bool] | rw [guardD_cases]); split <;> simp only [c3, eForm, hcl, htl, hcw, htw, h6, h9, evX, Int.reduceEq, Int.reduceLT, Int.reduceLE, Nat.reduceMul, Nat.reduceMod, evW, evR, Nat.reduceAdd, Nat.reduceLT, Nat.reduceLeDiff, reduceIte, Nat.reduceEqDiff, reduceCtorEq, argEnv, eq_self, if_true, if_false, *])
    exact ⟨_, rfl⟩
  | false =>
  cases h7v : (!l.all longS || decide ((20 : Int) < (l.length : Int))) with
  | true =>
    simp only [h7v] at h7
    simp only [c3, eForm, hcl, htl, hcw, htw, h6, h7, h9, evX, Int.reduceEq, Int.reduceLT, Int.reduceLE, Nat.reduceMul, Nat.reduceMod, evW, fn_eq, evR, Nat.reduceAdd, Nat.reduceLT, Nat.reduceLeDiff, reduceIte, Nat.reduceEqDiff, reduceCtorEq, argEnv, eq_self, if_true, if_false]
    repeat' ((first | rw [guardK_cases] | rw [condK_bool] | rw [guardD_cases]); split <;> simp only [c3, eForm, hcl, htl, hcw, htw, h6, h7, h9, evX, Int.reduceEq, Int.reduceLT, Int.reduceLE, Nat.reduceMul, Nat.reduceMod, evW, evR, Nat.reduceAdd, Nat.reduceLT, Nat.reduceLeDiff, reduceIte, Nat.reduceEqDiff, reduceCtorEq, argEnv, eq_self, if_true, if_false, *])
    exact ⟨_, rfl⟩
  | false =>
  simp only [h7v] at h7
  simp only [Bool.or_eq_false_iff, Bool.not_eq_false', decide_eq_false_iff_not] at h7v
  obtain ⟨ha, hln⟩ := h7v
  have hsz : ∀ t ∈ l, t.size ≤ 300 := fun t ht => by
    have := List.all_eq_true.1 ha t ht
    unfold longS at this
    simp at this
    omega
  by_cases c10 : (10 : Int) < (ws.length : Int)
  · simp only [c3, eForm, hcl, htl, hcw, htw, h6, h7, hwl, c10, h9, evX, Int.reduceEq, Int.reduceLT, Int.reduceLE, Nat.reduceMul, Nat.reduceMod, evW, fn_eq, evR, Nat.reduceAdd, Nat.reduceLT, Nat.reduceLeDiff, reduceIte, Nat.reduceEqDiff, reduceCtorEq, argEnv, eq_self, if_true, if_false]
    repeat' ((first | rw [guardK_cases] | rw [condK_bool] | rw [guardD_cases]); split <;> simp only [c3, eForm, hcl, htl, hcw, htw, h6, h7, hwl, c10, h9, evX, Int.reduceEq, Int.reduceLT, Int.reduceLE, Nat.reduceMul, Nat.reduceMod, evW, evR, Nat.reduceAdd, Nat.reduceLT, Nat.reduceLeDiff, reduceIte, Nat.reduceEqDiff, reduceCtorEq, argEnv, eq_self, if_true, if_false, *])
    exact ⟨_, rfl⟩
  cases hok : formOk f with
  | false =>
    simp only [hok] at h8
    simp only [c3, eForm, hcl, htl, hcw, htw, h6, h7, h8, hwl, c10, h9, evX, Int.reduceEq, Int.reduceLT, Int.reduceLE, Nat.reduceMul, Nat.reduceMod, evW, fn_eq, evR, Nat.reduceAdd, Nat.reduceLT, Nat.reduceLeDiff, reduceIte, Nat.reduceEqDiff, reduceCtorEq, argEnv, eq_self, if_true, if_false]
    repeat' ((first | rw [guardK_cases] | rw [condK_bool] | rw [guardD_cases]); split <;> simp only [c3, eForm, hcl, htl, hcw, htw, h6, h7, h8, hwl, c10, h9, evX, Int.reduceEq, Int.reduceLT, Int.reduceLE, Nat.reduceMul, Nat.reduceMod, evW, evR, Nat.reduceAdd, Nat.reduceLT, Nat.reduceLeDiff, reduceIte, Nat.reduceEqDiff, reduceCtorEq, argEnv, eq_self, if_true, if_false, *])
    exact ⟨_, rfl⟩
  | true =>
  simp only [hok] at h8
  have g := good_of hf hok
  have h10 := f10 f g l hl (fun s hs => by have := hsz s hs; omega)
  simp only [eForm] at h10
  by_cases he : showE f l = 0
  case neg =>
    have he2 : showE f l = 2 := by
      unfold showE at he ⊢
      split
      · rename_i h; rw [if_pos h] at he; exact absurd rfl he
      · rfl
    rw [if_neg he, he2] at h10
    simp only [c3, eForm, hcl, htl, hcw, htw, h6, h7, h8, h10, hwl, c10, h9, evX, Int.reduceEq, Int.reduceLT, Int.reduceLE, Nat.reduceMul, Nat.reduceMod, evW, fn_eq, evR, Nat.reduceAdd, Nat.reduceLT, Nat.reduceLeDiff, reduceIte, Nat.reduceEqDiff, reduceCtorEq, argEnv, eq_self, if_true, if_false]
    repeat' ((first | rw [guardK_cases] | rw [condK_bool] | rw [guardD_cases]); split <;> simp only [c3, eForm, hcl, htl, hcw, htw, h6, h7, h8, h10, hwl, c10, h9, evX, Int.reduceEq, Int.reduceLT, Int.reduceLE, Nat.reduceMul, Nat.reduceMod, evW, evR, Nat.reduceAdd, Nat.reduceLT, Nat.reduceLeDiff, reduceIte, Nat.reduceEqDiff, reduceCtorEq, argEnv, eq_self, if_true, if_false, *])
    exact ⟨_, rfl⟩
  case pos =>
  rw [if_pos he, he] at h10
  obtain ⟨hlt, hbad⟩ := show_lt he
  have hp := show_pic g hbad
  have h11 := f11 f g _ hp
  have h12 := f12 f g _ hp
  obtain ⟨v13, h13, hv13⟩ := f13 f g l hlt (by omega) (fun t ht => by have := hsz t ht; omega) [bForm f]
  have h16 := f16 f g l (by omega) (fun s hs => by have := hsz s hs; omega) he [bForm f]
  have htp : (eStrs (showP f l)).isTup = false := rfl
  have L := fun p0 hp0 st hE hH z hz => l3_0 f g l ws hw 0 [bForm f] (.mk (by rfl)) p0 hp0 st hE hH z hz
  simp only [eForm, bForm] at h11 h12 h13 h16
  have hmx : (l.length : Int) = mxI Slot.out f.slots := by
    unfold showE at he
    split at he
    · rename_i h; exact h.1
    · cases he
  cases v13 with
  | false =>
    have hbt : (eStrs (outF (showP f l) (mxI Slot.inn f.slots).toNat f.slots)).isTup = false := rfl
    simp only [c3, eForm, hcl, htl, hcw, htw, h6, h7, h8, h10, htp, h11, h12, hbt, h13, hwl, c10, h9, evX, Int.reduceEq, Int.reduceLT, Int.reduceLE, Nat.reduceMul, Nat.reduceMod, evW, fn_eq, evR, Nat.reduceAdd, Nat.reduceLT, Nat.reduceLeDiff, reduceIte, Nat.reduceEqDiff, reduceCtorEq, argEnv, eq_self, if_true, if_false]
    repeat' ((first | rw [guardK_cases] | rw [condK_bool] | rw [guardD_cases]); split <;> simp only [c3, eForm, hcl, htl, hcw, htw, h6, h7, h8, h10, htp, h11, h12, hbt, h13, hwl, c10, h9, evX, Int.reduceEq, Int.reduceLT, Int.reduceLE, Nat.reduceMul, Nat.reduceMod, evW, evR, Nat.reduceAdd, Nat.reduceLT, Nat.reduceLeDiff, reduceIte, Nat.reduceEqDiff, reduceCtorEq, argEnv, eq_self, if_true, if_false, *])
    generalize hz : itLim _ _ = z
    obtain ⟨T, c, rfl, hT⟩ := L (showP f l) hp _ (by rfl) rfl z hz
    clear hz
    rcases hT with ⟨rfl, hT⟩ | ⟨rfl, hT⟩
    · simp only [bForm]
      simp only [hT, h16, h9, evX, Int.reduceEq, Int.reduceLT, Int.reduceLE, Nat.reduceMul, Nat.reduceMod, evW, fn_eq, evR, Nat.reduceAdd, Nat.reduceLT, Nat.reduceLeDiff, reduceIte, Nat.reduceEqDiff, reduceCtorEq, argEnv, eq_self, if_true, if_false]
      repeat' ((first | rw [guardK_cases] | rw [condK_bool] | rw [guardD_cases]); split <;> simp only [hT, h16, h9, evX, Int.reduceEq, Int.reduceLT, Int.reduceLE, Nat.reduceMul, Nat.reduceMod, evW, evR, Nat.reduceAdd, Nat.reduceLT, Nat.reduceLeDiff, reduceIte, Nat.reduceEqDiff, reduceCtorEq, argEnv, eq_self, if_true, if_false, *])
      exact ⟨_, rfl⟩
    · simp only [hT, evX, Int.reduceEq, Int.reduceLT, Int.reduceLE, Nat.reduceMul, Nat.reduceMod, evW, fn_eq, evR, Nat.reduceAdd, Nat.reduceLT, Nat.reduceLeDiff, reduceIte, Nat.reduceEqDiff, reduceCtorEq, argEnv, eq_self, if_true, if_false]
      repeat' ((first | rw [guardK_cases] | rw [condK_bool] | rw [guardD_cases]); split <;> simp only [hT, evX, Int.reduceEq, Int.reduceLT, Int.reduceLE, Nat.reduceMul, Nat.reduceMod, evW, evR, Nat.reduceAdd, Nat.reduceLT, Nat.reduceLeDiff, reduceIte, Nat.reduceEqDiff, reduceCtorEq, argEnv, eq_self, if_true, if_false, *])
      exact ⟨_, rfl⟩
  | true =>
    obtain ⟨v1, v2⟩ := hv13 rfl
    rw [plain_back g hmx v1 v2] at h12
    have h14 := f14 l hl
    have h14p := fun H => f14 (showP f l) (by have := (pic_len g hp).1; omega) H
    simp only [c3, eForm, hcl, htl, hcw, htw, h6, h7, h8, h10, htp, h11, h12, h13, h14, h14p, hwl, c10, h9, evX, Int.reduceEq, Int.reduceLT, Int.reduceLE, Nat.reduceMul, Nat.reduceMod, evW, fn_eq, evR, Nat.reduceAdd, Nat.reduceLT, Nat.reduceLeDiff, reduceIte, Nat.reduceEqDiff, reduceCtorEq, argEnv, eq_self, if_true, if_false]
    repeat' ((first | rw [guardK_cases] | rw [condK_bool] | rw [guardD_cases]); split <;> simp only [c3, eForm, hcl, htl, hcw, htw, h6, h7, h8, h10, htp, h11, h12, h13, h14, h14p, hwl, c10, h9, evX, Int.reduceEq, Int.reduceLT, Int.reduceLE, Nat.reduceMul, Nat.reduceMod, evW, evR, Nat.reduceAdd, Nat.reduceLT, Nat.reduceLeDiff, reduceIte, Nat.reduceEqDiff, reduceCtorEq, argEnv, eq_self, if_true, if_false, *])
    generalize hz : itLim _ _ = z
    obtain ⟨T, c, rfl, hT⟩ := L (showP f l) hp _ (by rfl) rfl z hz
    clear hz
    rcases hT with ⟨rfl, hT⟩ | ⟨rfl, hT⟩
    · simp only [bForm]
      simp only [hT, h16, h9, evX, Int.reduceEq, Int.reduceLT, Int.reduceLE, Nat.reduceMul, Nat.reduceMod, evW, fn_eq, evR, Nat.reduceAdd, Nat.reduceLT, Nat.reduceLeDiff, reduceIte, Nat.reduceEqDiff, reduceCtorEq, argEnv, eq_self, if_true, if_false]
      repeat' ((first | rw [guardK_cases] | rw [condK_bool] | rw [guardD_cases]); split <;> simp only [hT, h16, h9, evX, Int.reduceEq, Int.reduceLT, Int.reduceLE, Nat.reduceMul, Nat.reduceMod, evW, evR, Nat.reduceAdd, Nat.reduceLT, Nat.reduceLeDiff, reduceIte, Nat.reduceEqDiff, reduceCtorEq, argEnv, eq_self, if_true, if_false, *])
      exact ⟨_, rfl⟩
    · simp only [hT, evX, Int.reduceEq, Int.reduceLT, Int.reduceLE, Nat.reduceMul, Nat.reduceMod, evW, fn_eq, evR, Nat.reduceAdd, Nat.reduceLT, Nat.reduceLeDiff, reduceIte, Nat.reduceEqDiff, reduceCtorEq, argEnv, eq_self, if_true, if_false]
      repeat' ((first | rw [guardK_cases] | rw [condK_bool] | rw [guardD_cases]); split <;> simp only [hT, evX, Int.reduceEq, Int.reduceLT, Int.reduceLE, Nat.reduceMul, Nat.reduceMod, evW, evR, Nat.reduceAdd, Nat.reduceLT, Nat.reduceLeDiff, reduceIte, Nat.reduceEqDiff, reduceCtorEq, argEnv, eq_self, if_true, if_false, *])
      exact ⟨_, rfl⟩
theorem open_Mark {r : List AV} (h : HasL [.int .i64, .int .i64, .str] r) : ∃ x : Mark, r = rMark x ∧ x.text.size < 9223372036854775807 := by
  simp only [HasL.eq_2, HasL.eq_1, Has] at h
  obtain ⟨_, _, rfl, ⟨p, rfl, _⟩, _, _, rfl, ⟨t, rfl, _⟩, _, _, rfl, ⟨d, rfl, hd⟩, rfl⟩ := h
  exact ⟨⟨p, t, d⟩, rfl, reach_lt hd⟩
theorem open_Slot {r : List AV} (h : HasL [.str, .int .i64, .int .i64, .int .i64, .int .i64, .int .i64, .int .u8] r) : ∃ x : Slot, r = rSlot x ∧ x.name.size < 9223372036854775807 := by
  simp only [HasL.eq_2, HasL.eq_1, Has] at h
  obtain ⟨_, _, rfl, ⟨n, rfl, hn⟩, _, _, rfl, ⟨a, rfl, _⟩, _, _, rfl, ⟨b, rfl, _⟩, _, _, rfl, ⟨c, rfl, _⟩, _, _, rfl, ⟨d, rfl, _⟩, _, _, rfl, ⟨e, rfl, _⟩, _, _, rfl, ⟨u, rfl, hu⟩, rfl⟩ := h
  simp only [Lit.wf, Bool.and_eq_true, decide_eq_true_eq] at hu
  have h1 : (0 : Int) ≤ u := hu.1
  have h2 : u ≤ 255 := hu.2
  refine ⟨⟨n, a, b, c, d, e, UInt8.ofNat u.toNat⟩, ?_, reach_lt hn⟩
  simp only [rSlot]
  rw [UInt8.toNat_ofNat', Nat.mod_eq_of_lt (by omega), Int.toNat_of_nonneg h1]
theorem open_Form {a : AV} (h : ArgTy true [.int .i64, .int .i64, .sl [.int .i64, .int .i64, .str], .sl [.str, .int .i64, .int .i64, .int .i64, .int .i64, .int .i64, .int .u8]] a) : ∃ f : Form, a = eForm f ∧ f.Ok := by
  obtain ⟨bs, rfl, h⟩ := h
  simp only [HasL.eq_2, HasL.eq_1, Has] at h
  obtain ⟨_, _, rfl, ⟨n, rfl, _⟩, _, _, rfl, ⟨k, rfl, _⟩, _, _, rfl, ⟨l, rfl, hl, hr⟩, _, _, rfl, ⟨l', rfl, hl', hr'⟩, rfl⟩ := h
  obtain ⟨ts, rfl, hq⟩ := typed (P := HasL [.int .i64, .int .i64, .str]) (fun r h => open_Mark h) l (fun r h => by simpa only [HasL.eq_2, HasL.eq_1, Has] using hr r h)
  obtain ⟨xs, rfl, hq'⟩ := typed (P := HasL [.str, .int .i64, .int .i64, .int .i64, .int .i64, .int .i64, .int .u8]) (fun r h => open_Slot h) l' (fun r h => by simpa only [HasL.eq_2, HasL.eq_1, Has] using hr' r h)
  exact ⟨⟨n, k, ts, xs⟩, rfl, ⟨reach_lt (by simpa using hl), hq, reach_lt (by simpa using hl'), hq'⟩⟩
theorem open_Str {r : List AV} (h : HasL [.str] r) : ∃ x : ByteArray, r = rS x ∧ True := by
  simp only [HasL.eq_2, HasL.eq_1, Has] at h
  obtain ⟨_, _, rfl, ⟨p, rfl, _⟩, rfl⟩ := h
  exact ⟨p, rfl, trivial⟩
theorem open_Strs {a : AV} (h : ArgTy false [.sl [.str]] a) : ∃ l : List ByteArray, a = eStrs l ∧ l.length < 9223372036854775807 := by
  have h : HasL [.sl [.str]] [a] := h
  simp only [HasL.eq_2, HasL.eq_1, Has] at h
  obtain ⟨x, xs, he, ⟨l, rfl, hl, hr⟩, rfl⟩ := h
  cases he
  obtain ⟨us, rfl, _⟩ := typed (P := HasL [.str]) (fun r h => open_Str h) l (fun r h => by simpa only [HasL.eq_2, HasL.eq_1, Has] using hr r h)
  exact ⟨us, rfl, reach_lt (by simpa using hl)⟩
theorem open_Word {r : List AV} (h : HasL [.str, .str] r) : ∃ x : Word, r = rWord x ∧ True := by
  simp only [HasL.eq_2, HasL.eq_1, Has] at h
  obtain ⟨_, _, rfl, ⟨p, rfl, _⟩, _, _, rfl, ⟨q, rfl, _⟩, rfl⟩ := h
  exact ⟨⟨p, q⟩, rfl, trivial⟩
theorem open_Words {a : AV} (h : ArgTy false [.sl [.str, .str]] a) : ∃ l : List Word, a = eWords l ∧ l.length < 9223372036854775807 := by
  have h : HasL [.sl [.str, .str]] [a] := h
  simp only [HasL.eq_2, HasL.eq_1, Has] at h
  obtain ⟨x, xs, he, ⟨l, rfl, hl, hr⟩, rfl⟩ := h
  cases he
  obtain ⟨us, rfl, _⟩ := typed (P := HasL [.str, .str]) (fun r h => open_Word h) l (fun r h => by simpa only [HasL.eq_2, HasL.eq_1, Has] using hr r h)
  exact ⟨us, rfl, reach_lt (by simpa using hl)⟩
end Go.Proofs.Ytondenmkhfignaa.Code
namespace Go.Proofs.Ytondenmkhfignaa.Pure
open Go.Proofs.Ytondenmkhfignaa.Ev Go.Proofs.Ytondenmkhfignaa.Code
theorem TopScreen (a0 : AV) (t0 : ArgTy true [.int .i64, .int .i64, .sl [.int .i64, .int .i64, .str], .sl [.str, .int .i64, .int .i64, .int .i64, .int .i64, .int .i64, .int .u8]] a0) (a1 : AV) (t1 : ArgTy false [.sl [.str]] a1) (a2 : AV) (t2 : ArgTy false [.sl [.str, .str]] a2) : ∃ H', evC cprog 3 [a0, a1, a2] [] = some (.bool true, H') := by
  obtain ⟨f, rfl, hf⟩ := open_Form t0
  obtain ⟨l, rfl, hl⟩ := open_Strs t1
  obtain ⟨w, rfl, hw⟩ := open_Words t2
  exact f3 f hf l hl w hw
end Go.Proofs.Ytondenmkhfignaa.Pure

