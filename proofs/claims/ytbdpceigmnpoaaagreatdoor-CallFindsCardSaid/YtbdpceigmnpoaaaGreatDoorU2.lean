/- Texts of ours, joined into one file; each begins with its own remark. -/
import Derived.Test.YtbdpceigmnpoaaaGreatDoorU1
import Derived.Test.YtbdpceigmnpoaaaGreatDoorCodeB
import Derived.Test.YtbdpceigmnpoaaaGreatDoorRepU
import Derived.Test.YtbdpceigmnpoaaaGreatDoorStrU
import Derived.KernelRfl
/- plain: fits, keys and Replace, of the program and of the document. -/
set_option linter.unusedSimpArgs false
set_option linter.unusedVariables false
namespace Go.Proofs.YtbdpceigmnpoaaaGreatDoor.Code
open Go.Proofs.YtbdpceigmnpoaaaGreatDoor.Ev

def tyOut (ts : List Ty) (i : Int) : Bool := decide (i < 0) || decide ((ts.length : Int) ≤ i)
noncomputable def errB (b : Base) (l : List Int) : Int := if validB b = true then (if l.any (tyOut b.types) = true then 2 else 0) else 100
theorem Base.Ok.lens {b : Base} (hb : b.Ok) (h : validB b = true) : b.types.length ≤ 8 ∧ b.indexes.length ≤ 3 := by
  simp only [validB, areTys, Bool.and_eq_true, decide_eq_true_eq] at h
  omega
theorem f128 (b : Base) (t : Int) (H : Heap) : cal (evC cprog) false 128 [eBase b, .int .i64 t] H = some (.bool (!tyOut b.types t), H) := by
  rw [cal_of at128]
  have hlen := (sTys [] b.types).len
  simp only [List.length_map] at hlen
  by_cases h0 : 0 ≤ t <;> by_cases h1 : t < (b.types.length : Int)
  all_goals
    have h2 : tyOut b.types t = !(decide (0 ≤ t) && decide (t < (b.types.length : Int))) := by
      unfold tyOut
      by_cases g0 : t < 0 <;> by_cases g1 : (b.types.length : Int) ≤ t <;> simp only [g0, g1, h0, h1, decide_true, decide_false, Bool.or_true, Bool.true_or, Bool.or_false, Bool.and_true, Bool.and_false, Bool.not_true, Bool.not_false, Bool.and_self] <;> omega
    rw [h2]
    simp only [h0, h1, decide_true, decide_false, Bool.and_self, Bool.and_true, Bool.and_false, Bool.not_not]
  · simp only [c128, eBase, hlen, h0, h1, evX, Int.reduceEq, Int.reduceLT, Int.reduceLE, Nat.reduceMul, Nat.reduceMod, evW, fn_eq, evR, Nat.reduceAdd, Nat.reduceLT, Nat.reduceLeDiff, reduceIte, Nat.reduceEqDiff, reduceCtorEq, argEnv, eq_self, if_true, if_false]
  · simp only [c128, eBase, hlen, h0, h1, evX, Int.reduceEq, Int.reduceLT, Int.reduceLE, Nat.reduceMul, Nat.reduceMod, evW, fn_eq, evR, Nat.reduceAdd, Nat.reduceLT, Nat.reduceLeDiff, reduceIte, Nat.reduceEqDiff, reduceCtorEq, argEnv, eq_self, if_true, if_false]
  · simp only [c128, eBase, hlen, h0, h1, evX, Int.reduceEq, Int.reduceLT, Int.reduceLE, Nat.reduceMul, Nat.reduceMod, evW, fn_eq, evR, Nat.reduceAdd, Nat.reduceLT, Nat.reduceLeDiff, reduceIte, Nat.reduceEqDiff, reduceCtorEq, argEnv, eq_self, if_true, if_false]
  · simp only [c128, eBase, hlen, h0, h1, evX, Int.reduceEq, Int.reduceLT, Int.reduceLE, Nat.reduceMul, Nat.reduceMod, evW, fn_eq, evR, Nat.reduceAdd, Nat.reduceLT, Nat.reduceLeDiff, reduceIte, Nat.reduceEqDiff, reduceCtorEq, argEnv, eq_self, if_true, if_false]
theorem f91 (b : Base) (hb : b.Ok) (a : AV) (l : List Int) (hl : l.length < 9223372036854775807) (H : Heap) (ha : SlAt H 1 a (l.map rI)) : cal (evC cprog) false 91 [eBase b, a] H = some (.int .i64 (errB b l), H) := by
  rw [cal_of at91]
  have h1 := f43 b hb
  have h2 := f128 b
  simp only [eBase] at h1 h2
  have hlen' := ha.len
  simp only [List.length_map] at hlen'
  cases hv : validB b with
  | false =>
    simp only [c91, eBase, h1, hv, evX, Int.reduceEq, Int.reduceLT, Int.reduceLE, Nat.reduceMul, Nat.reduceMod, evW, fn_eq, evR, Nat.reduceAdd, Nat.reduceLT, Nat.reduceLeDiff, reduceIte, Nat.reduceEqDiff, reduceCtorEq, argEnv, eq_self, if_true, if_false]
    simp [errB, hv]
  | true =>
    simp only [c91, eBase, h1, hv, evX, Int.reduceEq, Int.reduceLT, Int.reduceLE, Nat.reduceMul, Nat.reduceMod, evW, fn_eq, evR, Nat.reduceAdd, Nat.reduceLT, Nat.reduceLeDiff, reduceIte, Nat.reduceEqDiff, reduceCtorEq, argEnv, eq_self, if_true, if_false]
    generalize hz : itLim _ _ = z
    have key : ∀ (H' : Heap) (b1 : Nat), Sits H' b1 (bBase b) → SlAt H' 1 a (l.map rI) → ∀ (st : St) (G : Heap), keepEnv st.1 [1, 2, 5] = [(1, a), (2, .ptr b1 0 4 0 0), (5, .int .i64 0)] → st.2 = H' ++ ([] ++ G) → ∀ z, itLim (evCode (evC cprog) itLim c91_l0) st = z →
        (l.all (fun i => !tyOut b.types i) = true ∧ Lv H' [] (fun c T => c = .exit 0) z) ∨ (l.all (fun i => !tyOut b.types i) = false ∧ Lv H' [] (fun c T => c = .ret ∧ get T 4 = some (.int .i64 2)) z) := by
      intro H' b1 hs ha st G hE hH z hz
      simp only [bBase, Sits] at hs
      exact all_rule l _ [1, 2, 5] (fun i => [(1, a), (2, .ptr b1 0 4 0 0), (5, .int .i64 (i : Int))]) H' [] (evCode (evC cprog) itLim c91_l0) _ _
        (fun i x hx E G hE => by
          have hlt : i < l.length := (List.getElem?_eq_some_iff.1 hx).1
          have hi : (i : Int) < (l.length : Int) := by omega
          obtain ⟨p, g1, g2⟩ := slI ha hx
          have hw := wrapS hlt hl
          cases ho : tyOut b.types x with
          | true =>
            simp only [c91_l0, hE, hi, hlen', hs, g1, g2, h2, ho, evX, Int.reduceEq, Int.reduceLT, Int.reduceLE, Nat.reduceMul, Nat.reduceMod, evW, fn_eq, evR, Nat.reduceAdd, Nat.reduceLT, Nat.reduceLeDiff, reduceIte, Nat.reduceEqDiff, reduceCtorEq, argEnv, eq_self, if_true, if_false]
            exact Sc.ret rfl ⟨rfl, rfl⟩
          | false =>
            simp only [c91_l0, hE, hi, hlen', hs, g1, g2, h2, ho, hw, evX, Int.reduceEq, Int.reduceLT, Int.reduceLE, Nat.reduceMul, Nat.reduceMod, evW, fn_eq, evR, Nat.reduceAdd, Nat.reduceLT, Nat.reduceLeDiff, reduceIte, Nat.reduceEqDiff, reduceCtorEq, argEnv, eq_self, if_true, if_false]
            exact Sc.next rfl (by rfl))
        (fun E G hE => by
          simp only [c91_l0, hE, hlen', Int.lt_irrefl, evX, Int.reduceEq, Int.reduceLT, Int.reduceLE, Nat.reduceMul, Nat.reduceMod, evW, fn_eq, evR, Nat.reduceAdd, Nat.reduceLT, Nat.reduceLeDiff, reduceIte, Nat.reduceEqDiff, reduceCtorEq, argEnv, eq_self, if_true, if_false]
          exact .exit (K := []) rfl) st G hE hH z hz
    rcases key (H ++ [bBase b]) H.length (.mk (by simp)) (ha.app _) _ [] (by rfl) (by simp [bBase]) z hz with ⟨ha, c, T, G, rfl, _, rfl⟩ | ⟨ha, c, T, G, rfl, _, rfl, hT⟩
    · simp only [evX, Int.reduceEq, Int.reduceLT, Int.reduceLE, Nat.reduceMul, Nat.reduceMod, evW, fn_eq, evR, Nat.reduceAdd, Nat.reduceLT, Nat.reduceLeDiff, reduceIte, Nat.reduceEqDiff, reduceCtorEq, argEnv, eq_self, if_true, if_false]
      have : l.any (tyOut b.types) = false := by rw [List.any_eq_false]; intro x hx; have := List.all_eq_true.1 ha x hx; simpa using this
      simp [errB, hv, this]
    · simp only [hT, evX, Int.reduceEq, Int.reduceLT, Int.reduceLE, Nat.reduceMul, Nat.reduceMod, evW, fn_eq, evR, Nat.reduceAdd, Nat.reduceLT, Nat.reduceLeDiff, reduceIte, Nat.reduceEqDiff, reduceCtorEq, argEnv, eq_self, if_true, if_false]
      have : l.any (tyOut b.types) = true := by
        obtain ⟨x, hx, h⟩ := List.all_eq_false.1 ha
        rw [List.any_eq_true]; exact ⟨x, hx, by simpa using h⟩
      simp [errB, hv, this]
theorem errB_ok {b : Base} (hv : validB b = true) {k : Nat} (hk : k < b.types.length) : errB b [(k : Int)] = 0 := by
  have h : tyOut b.types (k : Int) = false := by simp [tyOut]; omega
  unfold errB
  rw [if_pos hv, if_neg (by simp [h])]
end Go.Proofs.YtbdpceigmnpoaaaGreatDoor.Code

/- plain: Replace, of the program and of the document. -/
set_option linter.unusedSimpArgs false
set_option linter.unusedVariables false
namespace Go.Proofs.YtbdpceigmnpoaaaGreatDoor.Code
open Go.Proofs.YtbdpceigmnpoaaaGreatDoor.Ev

end Go.Proofs.YtbdpceigmnpoaaaGreatDoor.Code

/- (stands where another seat has texts of its own) -/
set_option linter.unusedSimpArgs false
set_option linter.unusedVariables false

/- logic: paths, of the program and of the document. -/
set_option linter.unusedSimpArgs false
set_option linter.unusedVariables false
namespace Go.Proofs.YtbdpceigmnpoaaaGreatDoor.Code
open Go.Proofs.YtbdpceigmnpoaaaGreatDoor.Ev

/-- the ends of a list, changed with each other -/
def swp (l : List Int) (t : Nat) : List Int := (List.range l.length).map fun k => if k < t ∨ l.length ≤ k + t then l.getD (l.length - 1 - k) 0 else l.getD k 0
theorem swp_len (l : List Int) (t : Nat) : (swp l t).length = l.length := by simp [swp]
theorem swp_at (l : List Int) (t k : Nat) (hk : k < l.length) : (swp l t)[k]? = some (if k < t ∨ l.length ≤ k + t then l.getD (l.length - 1 - k) 0 else l.getD k 0) := by simp [swp, hk]
theorem swp_zero (l : List Int) : swp l 0 = l := by
  apply List.ext_getElem? 
  intro k
  by_cases hk : k < l.length
  · rw [swp_at l 0 k hk, if_neg (by omega), List.getD_eq_getElem?_getD, List.getElem?_eq_getElem hk]; rfl
  · rw [List.getElem?_eq_none (by rw [swp_len]; omega), List.getElem?_eq_none (by omega)]
theorem swp_all (l : List Int) (t : Nat) (h : l.length ≤ 2 * t + 1) : swp l t = l.reverse := by
  apply List.ext_getElem?
  intro k
  by_cases hk : k < l.length
  · rw [swp_at l t k hk, List.getElem?_reverse hk]
    have e : (if k < t ∨ l.length ≤ k + t then l.getD (l.length - 1 - k) 0 else l.getD k 0) = l.getD (l.length - 1 - k) 0 := by
      split
      · rfl
      · congr 1; omega
    rw [e, List.getD_eq_getElem?_getD, List.getElem?_eq_getElem (by omega)]; rfl
  · rw [List.getElem?_eq_none (by rw [swp_len]; omega), List.getElem?_eq_none (by simp; omega)]
theorem swp_step (l : List Int) (t : Nat) (h : 2 * t + 1 < l.length) : ((swp l t).set t (l.getD (l.length - 1 - t) 0)).set (l.length - 1 - t) (l.getD t 0) = swp l (t + 1) := by
  apply List.ext_getElem?
  intro k
  by_cases hk : k < l.length
  · rw [swp_at l (t + 1) k hk, List.getElem?_set, List.getElem?_set]
    simp only [List.length_set, swp_len]
    by_cases h1 : l.length - 1 - t = k
    · rw [if_pos h1, if_pos (by omega), if_pos (by omega)]
      congr 2; omega
    · rw [if_neg h1]
      by_cases h2 : t = k
      · rw [if_pos h2, if_pos (by omega), if_pos (by omega), h2]
      · rw [if_neg h2, swp_at l t k hk]
        congr 1
        by_cases h3 : k < t ∨ l.length ≤ k + t
        · rw [if_pos h3, if_pos (by omega)]
        · rw [if_neg h3, if_neg (by omega)]
  · rw [List.getElem?_eq_none (by simp [swp_len]; omega), List.getElem?_eq_none (by rw [swp_len]; omega)]
theorem swp_row {l : List Int} {t k : Nat} (h1 : t ≤ k) (h2 : k + t < l.length) : ((swp l t).map rI)[k]? = some [.int .i64 (l.getD k 0)] := by
  rw [List.getElem?_map, swp_at l t k (by omega), if_neg (by omega)]; rfl
theorem f138 (H : Heap) (b v : Nat) (l : List Int) (hb : H[b]? = some ⟨v, true, 3, 1, l.map rI⟩) (h0 : 0 < l.length) (hl : l.length ≤ 1000) : cal (evC cprog) false 138 [.ref b v 1 0 l.length] H = some (.tup [], H.set b ⟨v, true, 3, 1, l.reverse.map rI⟩) := by
  rw [cal_of at138]
  have hbl := (List.getElem?_eq_some_iff.1 hb).1
  have hw0 : IntKind.i64.wrap ((l.length : Int) - 1) = ((l.length - 1 : Nat) : Int) := by rw [wrap_i64 (by omega) (by omega)]; omega
  simp only [c138, hw0, evX, Int.reduceEq, Int.reduceLT, Int.reduceLE, Nat.reduceMul, Nat.reduceMod, evW, fn_eq, evR, Nat.reduceAdd, Nat.reduceLT, Nat.reduceLeDiff, reduceIte, Nat.reduceEqDiff, reduceCtorEq, argEnv, eq_self, if_true, if_false]
  generalize hz : itLim _ _ = z
  have L := loop_rule (σ := Nat) (m := [0, 2, 3]) (env := fun t => [(0, .ref b v 1 0 l.length), (2, .int .i64 (t : Int)), (3, .int .i64 ((l.length - 1 - t : Nat) : Int))]) (hp := fun t => H.set b ⟨v, true, 3, 1, (swp l t).map rI⟩)
    (P := fun _ r => ∃ T, r = (.exit 0, T, H.set b ⟨v, true, 3, 1, l.reverse.map rI⟩))
    (mu := fun t => l.length - t) (I := fun t => 2 * t ≤ l.length) (evCode (evC cprog) itLim c138_l0) ?_ 0 _ (by omega) (by rfl) (by
      rw [swp_zero]
      exact List.ext_getElem? fun j => by
        by_cases e : b = j
        · subst e; rw [List.getElem?_set_self hbl, hb]
        · rw [List.getElem?_set_ne e]) z hz
  · obtain ⟨_, rfl, T, rfl⟩ := L
    simp only [evX, Int.reduceEq, Int.reduceLT, Int.reduceLE, Nat.reduceMul, Nat.reduceMod, evW, fn_eq, evR, Nat.reduceAdd, Nat.reduceLT, Nat.reduceLeDiff, reduceIte, Nat.reduceEqDiff, reduceCtorEq, argEnv, eq_self, if_true, if_false]
    show some (AV.tup [], gc H (AV.tup []) (H.set b ⟨v, true, 3, 1, l.reverse.map rI⟩)) = _
    rcases gc_or H (.tup []) (H.set b ⟨v, true, 3, 1, l.reverse.map rI⟩) with h | ⟨h, ht⟩
    · rw [h]
    · rw [List.take_of_length_le (by simp)] at ht
      rw [h, ht]
  · intro t ht E hE
    by_cases hlt : 2 * t + 1 < l.length
    · have hii : (t : Int) < ((l.length - 1 - t : Nat) : Int) := by omega
      have r1 := swp_row (l := l) (t := t) (k := t) (Nat.le_refl _) (by omega)
      have r2 := swp_row (l := l) (t := t) (k := l.length - 1 - t) (by omega) (by omega)
      have r3 : (((swp l t).map rI).set t [.int .i64 (l.getD (l.length - 1 - t) 0)])[l.length - 1 - t]? = some [.int .i64 (l.getD (l.length - 1 - t) 0)] := by
        rw [List.getElem?_set_ne (by omega)]; exact r2
      have hst : (((swp l t).map rI).set t [.int .i64 (l.getD (l.length - 1 - t) 0)]).set (l.length - 1 - t) [.int .i64 (l.getD t 0)] = (swp l (t + 1)).map rI := by
        rw [← swp_step l t hlt, List.map_set, List.map_set]; rfl
      have k1 : t < l.length := by omega
      have k2 : l.length - 1 - t < l.length := by omega
      have hw1 : IntKind.i64.wrap ((t : Int) + 1) = ((t + 1 : Nat) : Int) := by rw [wrap_i64 (by omega) (by omega)]; omega
      have hw2 : IntKind.i64.wrap (((l.length - 1 - t : Nat) : Int) - 1) = ((l.length - 1 - (t + 1) : Nat) : Int) := by rw [wrap_i64 (by omega) (by omega)]; omega
      have hat : ∀ B, (H.set b B)[b]? = some B := fun B => List.getElem?_set_self hbl
      generalize l.length - 1 - t = j at *
      simp only [c138_l0, hE, hii, hat, r1, r2, r3, hst, List.set_set, k1, k2, hw1, hw2, asNat_cast, evX, Int.reduceEq, Int.reduceLT, Int.reduceLE, Nat.reduceMul, Nat.reduceMod, evW, fn_eq, evR, Nat.reduceAdd, Nat.reduceLT, Nat.reduceLeDiff, reduceIte, Nat.reduceEqDiff, reduceCtorEq, argEnv, eq_self, if_true, if_false]
      exact q_next (t + 1) (by rfl) (by rfl) (by omega) (by omega) fun r h => h
    · have hii : ¬ (t : Int) < ((l.length - 1 - t : Nat) : Int) := by omega
      rw [swp_all l t (by omega)]
      simp only [c138_l0, hE, hii, evX, Int.reduceEq, Int.reduceLT, Int.reduceLE, Nat.reduceMul, Nat.reduceMod, evW, fn_eq, evR, Nat.reduceAdd, Nat.reduceLT, Nat.reduceLeDiff, reduceIte, Nat.reduceEqDiff, reduceCtorEq, argEnv, eq_self, if_true, if_false]
      exact q_exit ⟨_, rfl⟩
end Go.Proofs.YtbdpceigmnpoaaaGreatDoor.Code

/- logic: paths, of the program and of the document: the walks up. -/
set_option linter.unusedSimpArgs false
set_option linter.unusedVariables false
namespace Go.Proofs.YtbdpceigmnpoaaaGreatDoor.Code
open Go.Proofs.YtbdpceigmnpoaaaGreatDoor.Ev

/-- a walk up: what is ahead, and what was walked -/
structure Walks (b : Base) (f : List Item) (i : Nat) (c : Int) (acc : List Int) : Prop where
  lo : -1 ≤ c
  hi : c < (f.length : Int)
  eq : pth b.types f i = pthI b.types f c ++ acc
  len : (acc.length : Int) + c ≤ (f.length : Int)
theorem Walks.step {b : Base} {f : List Item} {i c : Nat} {acc : List Int} (w : Walks b f i (c : Int) acc) : Walks b f i (par b.types f c) ((c : Int) :: acc) := by
  have h1 := w.hi
  have hp := par_lt b.types f c
  refine ⟨hp.1, by omega, ?_, by have := w.len; simp; omega⟩
  rw [w.eq, pthI_nat, pth_eq b.types f (by omega), List.append_assoc]; rfl
theorem Walks.last {b : Base} {f : List Item} {i : Nat} {c : Int} {acc : List Int} (w : Walks b f i c acc) (h : c < 0) : acc = pth b.types f i := by
  rw [w.eq, pthI_neg _ _ h]; rfl
end Go.Proofs.YtbdpceigmnpoaaaGreatDoor.Code

/- octet.Key, of the program and of the document: the keys of lists of texts. -/
set_option linter.unusedSimpArgs false
set_option linter.unusedVariables false
namespace Go.Proofs.YtbdpceigmnpoaaaGreatDoor.Code
open Go.Proofs.YtbdpceigmnpoaaaGreatDoor.Ev

def rS (s : ByteArray) : List AV := [.str s]
def rU (b : UInt8) : List AV := [.int .u8 (b.toNat : Int)]
def eU (l : List UInt8) : AV := .lst (l.map rU)
def keyG (_ : Nat) (s : ByteArray) : List UInt8 := esc s.data.toList ++ [0, 1]
def keyU (l : List ByteArray) : List UInt8 := gath keyG 0 l
theorem data_len (s : ByteArray) : s.data.toList.length = s.size := Array.length_toList
theorem keyG_len (l : List ByteArray) (h : ∀ s ∈ l, s.size ≤ 1000) : ∀ k, (gath keyG k l).length ≤ 2002 * l.length := by
  induction l with
  | nil => intro k; simp [gath]
  | cons s l ih =>
    intro k
    have h1 := h s (by simp)
    have h2 := ih (fun t ht => h t (by simp [ht])) (k + 1)
    have h3 := esc_len s.data.toList
    rw [data_len] at h3
    simp only [gath, keyG, List.length_append, List.length_cons, List.length_nil]
    omega
theorem plain_U (q : List UInt8) : Plain (q.map rU) := by
  intro r hr a ha
  obtain ⟨n, _, rfl⟩ := List.mem_map.1 hr
  obtain rfl : a = .int .u8 (n.toNat : Int) := by simpa [rU] using ha
  exact ⟨rfl, fun _ _ => rfl⟩
theorem rU_rows (q : List UInt8) : ∀ r ∈ q.map rU, r.length = 1 := fun r hr => by obtain ⟨y, _, rfl⟩ := List.mem_map.1 hr; rfl
theorem byteRows_U (s : ByteArray) : byteRows s = s.data.toList.map rU := rfl
theorem fn_uRep {call it} {n : Nat} {res : List CRes} {p : List AV → Heap → Option (List AV × Heap)} (args : List AV) (H : Heap) : evFn call it ⟨n, res, .user p, false, false⟩ args H = bodyK res ((p args H).map fun r => (CX.ret, (argEnv 0 r.1, r.2))) := by
  rw [fn_eq]
  simp only [evCode, user_args]
theorem f143 (s : ByteArray) (hs : s.size ≤ 1000000) (H : Heap) : cal (evC cprog) false 143 [.str s, .str ⟨#[0]⟩, .str ⟨#[0, 255]⟩] H = some (.str ⟨(esc s.data.toList).toArray⟩, H) := by
  rw [cal_of at143, show c143 = ⟨0, [.t 0], .user pRepl, false, false⟩ from rfl, fn_uRep]
  have h : pRepl [.str s, .str ⟨#[0]⟩, .str ⟨#[0, 255]⟩] H = some ([.str ⟨(esc s.data.toList).toArray⟩], H) := by
    simp only [pRepl]
    rw [if_pos ⟨trivial, trivial, hs⟩]
  rw [h]
  simp only [evX, Int.reduceEq, Int.reduceLT, Int.reduceLE, Nat.reduceMul, Nat.reduceMod, evW, fn_eq, evR, Nat.reduceAdd, Nat.reduceLT, Nat.reduceLeDiff, reduceIte, Nat.reduceEqDiff, reduceCtorEq, argEnv, eq_self, if_true, if_false]
theorem slS {H : Heap} {a : AV} {l : List ByteArray} (h : SlAt H 1 a (l.map rS)) {i : Nat} {s : ByteArray} (hi : l[i]? = some s) : ∃ p, iaddrK 1 (some a) (some (.int .i64 (i : Int))) = some p ∧ ∀ X, loadK false 1 (H ++ X) (some p) = some (.str s) := by
  obtain ⟨_, p, h1, h2⟩ := h.get i (rS s) (by rw [List.getElem?_map, hi]; rfl)
  exact ⟨p, h1, fun X => h2.onex X⟩
theorem f112 (a : AV) (l : List ByteArray) (hl : l.length ≤ 1000) (hs : ∀ s ∈ l, s.size ≤ 1000) (H : Heap) (hsl : SlAt H 1 a (l.map rS)) : cal (evC cprog) true 112 [a] H = some (eU (keyU l), H) := by
  rw [cal_of at112]
  have hlen := hsl.len
  simp only [List.length_map] at hlen
  simp only [c112, hlen, evX, Int.reduceEq, Int.reduceLT, Int.reduceLE, Nat.reduceMul, Nat.reduceMod, evW, fn_eq, evR, Nat.reduceAdd, Nat.reduceLT, Nat.reduceLeDiff, reduceIte, Nat.reduceEqDiff, reduceCtorEq, argEnv, eq_self, if_true, if_false]
  generalize hz : itLim _ _ = z
  obtain ⟨T, X, rv, rfl, hT, hO⟩ := gath_rule l keyG rU [3, 6, 7, 8] (fun i rv => [(3, rv), (6, a), (7, .int .i64 (l.length : Int)), (8, .int .i64 (i : Int))]) H 1 5 (evCode (evC cprog) itLim c112_l0) 0 [3] (fun rv => [(3, rv)])
    (fun i s hx E X rv hE hO => by
      have hlt : i < l.length := (List.getElem?_eq_some_iff.1 hx).1
      have hi : (i : Int) < (l.length : Int) := by omega
      have hw := wrapS hlt (by omega)
      obtain ⟨p, hp, hq⟩ := slS hsl hx
      have hss := hs s (List.mem_of_getElem? hx)
      have h66 := fun K => f143 s (by omega) K
      have hb := keyG_len (l.take i) (fun t ht => hs t (List.mem_of_mem_take ht)) 0
      rw [List.length_take] at hb
      have he := esc_len s.data.toList
      rw [data_len] at he
      obtain ⟨rv1, X1, a1, a2, a3⟩ := hO.app H rfl 1 (.str ⟨(esc s.data.toList).toArray⟩) ((esc s.data.toList).map rU) (by simp [srcRows, byteRows_U]) (rU_rows _) (by simp only [List.length_map, reach]; omega)
      have a3' := a3.more [⟨0, true, 5, 1, [[.int .u8 0], [.int .u8 1]]⟩]
      obtain ⟨rv2, X2, b1, b2, b3⟩ := a3'.app H rfl 1 (.ref (H.length + X1.length) 0 1 0 2) [[.int .u8 0], [.int .u8 1]] (by simp [srcRows, rowsOf, curBlk, at_app]) (by simp) (by simp only [List.length_map, List.length_append, List.length_cons, List.length_nil, reach]; omega)
      simp only [c112_l0, hE, hi, hp, hq, h66, a1, a2, b1, b2, hw, evX, Int.reduceEq, Int.reduceLT, Int.reduceLE, Nat.reduceMul, Nat.reduceMod, evW, fn_eq, evR, Nat.reduceAdd, Nat.reduceLT, Nat.reduceLeDiff, reduceIte, Nat.reduceEqDiff, reduceCtorEq, argEnv, eq_self, if_true, if_false]
      exact ⟨_, _, _, rfl, by rfl, by simpa [keyG, rU] using b3⟩)
    (fun E X rv hE => by
      simp only [c112_l0, hE, Int.lt_irrefl, evX, Int.reduceEq, Int.reduceLT, Int.reduceLE, Nat.reduceMul, Nat.reduceMod, evW, fn_eq, evR, Nat.reduceAdd, Nat.reduceLT, Nat.reduceLeDiff, reduceIte, Nat.reduceEqDiff, reduceCtorEq, argEnv, eq_self, if_true, if_false]
      exact ⟨_, rfl, by rfl⟩) _ [] .nils (.nils ..) (by rfl) (by simp) z hz
  simp only [hT, out_tup hO, evX, Int.reduceEq, Int.reduceLT, Int.reduceLE, Nat.reduceMul, Nat.reduceMod, evW, fn_eq, evR, Nat.reduceAdd, Nat.reduceLT, Nat.reduceLeDiff, reduceIte, Nat.reduceEqDiff, reduceCtorEq, argEnv, eq_self, if_true, if_false]
  exact frz_out hO H [] (by simp) (plain_U _)
end Go.Proofs.YtbdpceigmnpoaaaGreatDoor.Code

/- ref01.Key: the document's keys of lists of texts. -/
set_option linter.unusedSimpArgs false
set_option linter.unusedVariables false
namespace Go.Proofs.YtbdpceigmnpoaaaGreatDoor.Code
open Go.Proofs.YtbdpceigmnpoaaaGreatDoor.Ev

end Go.Proofs.YtbdpceigmnpoaaaGreatDoor.Code

/- plain: full keys, of the program and of the document. -/
set_option linter.unusedSimpArgs false
set_option linter.unusedVariables false
namespace Go.Proofs.YtbdpceigmnpoaaaGreatDoor.Code
open Go.Proofs.YtbdpceigmnpoaaaGreatDoor.Ev

/-- the key of an item -/
def keyA (b : Base) (f : List Item) (k : Int) : ByteArray := keyOf (tyOf b.types (typ f k)) (dat f k)
/-- the keys on the path of an item -/
def fkL (b : Base) (f : List Item) (i : Nat) : List ByteArray := (pth b.types f i).map (keyA b f)
theorem keyOf_size {t : Ty} (ht : tyOk t = true) (d : ByteArray) : (keyOf t d).size ≤ 40 := by
  by_cases h0 : t.key < 0
  · simp only [keyOf, h0, if_true]
    exact Nat.zero_le _
  · obtain ⟨m, k, g1, g2, g3, g4, g5, g6⟩ := key_in ht (by omega)
    have : ¬ (m : Int) < 0 := by omega
    simp only [keyOf, g1, this, if_false, Int.toNat_natCast, g2]
    rw [ByteArray.size_extract]
    omega
theorem fk_at {b : Base} {f : List Item} (hr : Right b f) {i : Nat} (hi : i < f.length) {a : Int} (ha : a ∈ pth b.types f i) :
    ∃ (j : Nat) (x : Item) (k : Nat) (t : Ty), a = (j : Int) ∧ j ≤ i ∧ f[j]? = some x ∧ x.type = (k : Int) ∧ b.types[k]? = some t ∧ tyOk t = true ∧ t.min ≤ x.data.size ∧ keyA b f a = keyOf t x.data := by
  have hb := pth_bound ha
  obtain ⟨j, rfl⟩ : ∃ j : Nat, a = (j : Int) := ⟨a.toNat, by omega⟩
  obtain ⟨x, k, t, h1, h2, h3, h4, h5, h6, _⟩ := hr.item (show j < f.length by omega)
  refine ⟨j, x, k, t, rfl, by omega, h1, h2, h4, h5, h6, ?_⟩
  have hd : dat f (j : Int) = x.data := by simp [dat, h1]
  rw [keyA, typ_at h1, h2, tyOf_at h4, hd]
theorem fk_len {b : Base} {f : List Item} (hr : Right b f) {i : Nat} (hi : i < f.length) : (pth b.types f i).length ≤ 5 := by
  obtain ⟨x, k, t, h1, h2, h3, _⟩ := hr.item hi
  rw [pth_len hr i i (Nat.le_refl _) hi, typ_at h1, h2, Int.toNat_natCast]
  exact (anc_len8 hr h3).1
theorem fk_size {b : Base} {f : List Item} (hr : Right b f) {i : Nat} (hi : i < f.length) : ∀ s ∈ fkL b f i, s.size ≤ 1000 := by
  intro s hs
  obtain ⟨a, ha, rfl⟩ := List.mem_map.1 hs
  obtain ⟨_, x, _, t, _, _, _, _, _, h5, _, h7⟩ := fk_at hr hi ha
  rw [h7]
  have := keyOf_size h5 x.data
  omega
theorem out_slS {n ty : Nat} {X : Heap} {rv : AV} {l : List ByteArray} (h : Out n 1 ty X rv (l.map rS)) (H0 : Heap) (hn : n = H0.length) : SlAt (H0 ++ X) 1 rv (l.map rS) := out_slat h H0 hn fun r hr => by obtain ⟨_, _, rfl⟩ := List.mem_map.1 hr; rfl
end Go.Proofs.YtbdpceigmnpoaaaGreatDoor.Code

/- call: arguments, states, calls and answers; items on a path (mathematics). -/
set_option linter.unusedSimpArgs false
set_option linter.unusedVariables false
namespace Go.Proofs.YtbdpceigmnpoaaaGreatDoor.Code
open Go.Proofs.YtbdpceigmnpoaaaGreatDoor.Ev

structure Tm where
  field : ByteArray
  op : Int
  value : ByteArray
structure Ar where
  seg : ByteArray
  codes : ByteArray
  whn : List (List Tm)
structure Ste where
  items : List Item
  at' : Int
  next : Int
  parent : Int
  held : Bool
structure Cl where
  do' : ByteArray
  args : List Ar
  data : ByteArray
structure An where
  status : ByteArray
  seg : ByteArray
  level : Int
  key : ByteArray
  data : ByteArray
def rTm (x : Tm) : List AV := [.str x.field, .int .i64 x.op, .str x.value]
def eTms (l : List Tm) : AV := .lst (l.map rTm)
def rGr (l : List Tm) : List AV := [eTms l]
def eGrs (c : List (List Tm)) : AV := .lst (c.map rGr)
def rAr (a : Ar) : List AV := [.str a.seg, .str a.codes, eGrs a.whn]
def eArs (l : List Ar) : AV := .lst (l.map rAr)
def rSte (s : Ste) : List AV := [eItems s.items, .int .i64 s.at', .int .i64 s.next, .int .i64 s.parent, .bool s.held]
def eSte (s : Ste) : AV := .agg (rSte s)
def rCl (c : Cl) : List AV := [.str c.do', eArs c.args, .str c.data]
def eCl (c : Cl) : AV := .agg (rCl c)
def rAn (a : An) : List AV := [.str a.status, .str a.seg, .int .i64 a.level, .str a.key, .str a.data]
def eAn (a : An) : AV := .agg (rAn a)
theorem aTm {l : List Tm} {i : Nat} {x : Tm} (hx : l[i]? = some x) : iaddrK 3 (some (eTms l)) (some (.int .i64 (i : Int))) = some (.fptr (rTm x)) := lFp rTm (fun _ => rfl) hx
theorem sTms (H : Heap) (l : List Tm) : SlAt H 3 (eTms l) (l.map rTm) := sLst rTm (fun _ => rfl) H l
theorem aGr {l : List (List Tm)} {i : Nat} {x : List Tm} (hx : l[i]? = some x) : iaddrK 1 (some (eGrs l)) (some (.int .i64 (i : Int))) = some (.fptr (rGr x)) := lFp rGr (fun _ => rfl) hx
theorem sGrs (H : Heap) (l : List (List Tm)) : SlAt H 1 (eGrs l) (l.map rGr) := sLst rGr (fun _ => rfl) H l
theorem aAr {l : List Ar} {i : Nat} {x : Ar} (hx : l[i]? = some x) : iaddrK 3 (some (eArs l)) (some (.int .i64 (i : Int))) = some (.fptr (rAr x)) := lFp rAr (fun _ => rfl) hx
theorem sArs (H : Heap) (l : List Ar) : SlAt H 3 (eArs l) (l.map rAr) := sLst rAr (fun _ => rfl) H l
theorem lTm (x : Tm) : Loads true 3 (rTm x) (.agg (rTm x)) := ⟨rfl, rfl⟩
theorem lGr (x : List Tm) : Loads false 1 (rGr x) (eTms x) := ⟨rfl, rfl, rfl⟩
structure Ar.Ok (a : Ar) : Prop where
  codes : a.codes.size < 9223372036854775807
  whn : a.whn.length < 9223372036854775807
  gr : ∀ l ∈ a.whn, l.length < 9223372036854775807

/-! items on a path -/
/-- the item of a type on a path, or -1 -/
def onL (f : List Item) (t : Int) : List Int → Int
  | [] => -1
  | a :: l => if typ f a = t then a else onL f t l
theorem onL_none {f : List Item} {t : Int} : ∀ {l : List Int}, (∀ a ∈ l, typ f a ≠ t) → onL f t l = -1
  | [], _ => rfl
  | a :: l, h => by rw [onL, if_neg (h a (by simp)), onL_none fun b hb => h b (by simp [hb])]
theorem onL_app {f : List Item} {t : Int} : ∀ (l m : List Int), (∀ a ∈ l, typ f a ≠ t) → onL f t (l ++ m) = onL f t m
  | [], _, _ => rfl
  | a :: l, m, h => by rw [List.cons_append, onL, if_neg (h a (by simp)), onL_app l m fun b hb => h b (by simp [hb])]
theorem onL_fst {f : List Item} {t : Int} : ∀ (l m : List Int), 0 ≤ onL f t l → onL f t (l ++ m) = onL f t l
  | [], _, h => by simp [onL] at h
  | a :: l, m, h => by
    rw [onL] at h
    rw [List.cons_append, onL, onL]
    by_cases ha : typ f a = t
    · rw [if_pos ha, if_pos ha]
    · rw [if_neg ha] at h
      rw [if_neg ha, if_neg ha, onL_fst l m h]
theorem onL_mem {f : List Item} {t : Int} : ∀ {l : List Int}, 0 ≤ onL f t l → onL f t l ∈ l ∧ typ f (onL f t l) = t
  | [], h => by simp [onL] at h
  | a :: l, h => by
    rw [onL] at h ⊢
    by_cases ha : typ f a = t
    · rw [if_pos ha]; exact ⟨by simp, ha⟩
    · rw [if_neg ha] at h ⊢
      have := onL_mem h
      exact ⟨by simp [this.1], this.2⟩
theorem onL_ge {f : List Item} {t : Int} : ∀ {l : List Int}, (∀ a ∈ l, 0 ≤ a) → -1 ≤ onL f t l
  | [], _ => by simp [onL]
  | a :: l, h => by
    rw [onL]
    have := h a (by simp)
    have := onL_ge (f := f) (t := t) fun b hb => h b (List.mem_cons_of_mem _ hb)
    split <;> omega
/-- the item of a type on the path of an item, or -1 -/
def onI (b : Base) (f : List Item) (i t : Int) : Int := onL f t (pthI b.types f i)
theorem onI_neg {b : Base} {f : List Item} {i t : Int} (h : i < 0) : onI b f i t = -1 := by rw [onI, pthI_neg _ _ h]; rfl
theorem onI_self {b : Base} {f : List Item} (h : Right b f) {i : Nat} (hi : i < f.length) {t : Int} (ht : typ f (i : Int) = t) : onI b f i t = (i : Int) := by
  rw [onI, pthI_nat, pth_eq _ _ hi]
  have hr := typ_rise h.tys (Nat.le_refl _) h.ok i i (Nat.le_refl _) hi
  rw [onL_app _ _ fun a ha => ?_]
  · rw [onL, if_pos ht]
  · have ham : a ∈ pth b.types f i := by rw [pth_eq _ _ hi]; exact List.mem_append_left _ ha
    have hne : a ≠ (i : Int) := by
      have hp := par_lt b.types f i
      unfold pthI at ha
      by_cases h0 : par b.types f i < 0
      · rw [ancI_neg _ h0] at ha; cases ha
      · obtain ⟨p, hp'⟩ : ∃ p : Nat, par b.types f i = (p : Int) := ⟨(par b.types f i).toNat, by omega⟩
        rw [hp', ancI_nat] at ha
        have := (anc_bound ha).2
        omega
    have := hr a ham hne
    omega
theorem onI_up {b : Base} {f : List Item} {i : Nat} (hi : i < f.length) {t : Int} (ht : typ f (i : Int) ≠ t) : onI b f i t = onI b f (par b.types f i) t := by
  rw [onI, pthI_nat, pth_eq _ _ hi, onI]
  by_cases h0 : 0 ≤ onL f t (pthI b.types f (par b.types f i))
  · exact onL_fst _ _ h0
  · have hg : ∀ a ∈ pthI b.types f (par b.types f i), typ f a ≠ t := by
      intro a ha e
      have : ∀ (l : List Int), a ∈ l → (∀ x ∈ l, 0 ≤ x) → 0 ≤ onL f t l := by
        intro l
        induction l with
        | nil => intro h; cases h
        | cons x l ih =>
          intro hm hx
          rw [onL]
          by_cases hx' : typ f x = t
          · rw [if_pos hx']; exact hx x (by simp)
          · rw [if_neg hx']
            rcases List.mem_cons.1 hm with rfl | hm
            · exact absurd e hx'
            · exact ih hm fun y hy => hx y (by simp [hy])
      refine h0 (this _ ha fun x hx => ?_)
      by_cases hn : par b.types f i < 0
      · rw [pthI_neg _ _ hn] at hx; cases hx
      · obtain ⟨p, hp'⟩ : ∃ p : Nat, par b.types f i = (p : Int) := ⟨(par b.types f i).toNat, by omega⟩
        rw [hp', pthI_nat] at hx
        exact (pth_bound hx).1
    rw [onL_app _ _ hg, onL_none hg, onL, if_neg ht]; rfl
theorem onI_lt {b : Base} {f : List Item} {i : Nat} {t : Int} : -1 ≤ onI b f i t ∧ onI b f i t ≤ (i : Int) := by
  rw [onI, pthI_nat]
  refine ⟨onL_ge fun a ha => (pth_bound ha).1, ?_⟩
  by_cases h0 : 0 ≤ onL f t (pth b.types f i)
  · exact (pth_bound (onL_mem h0).1).2
  · omega
theorem onI_typ {b : Base} {f : List Item} {i : Nat} {t : Int} (h : 0 ≤ onI b f i t) : typ f (onI b f i t) = t := by
  rw [onI, pthI_nat] at h ⊢
  exact (onL_mem h).2
end Go.Proofs.YtbdpceigmnpoaaaGreatDoor.Code

/- call: what conditions, codes and arguments are and say; the answer's data (mathematics). -/
set_option linter.unusedSimpArgs false
set_option linter.unusedVariables false
namespace Go.Proofs.YtbdpceigmnpoaaaGreatDoor.Code
open Go.Proofs.YtbdpceigmnpoaaaGreatDoor.Ev

/-! conditions -/
def fldAt (l : List Fd) (n : ByteArray) : Option Fd := l.find? fun f => decide (f.name = n)
def tmOk (l : List Fd) (x : Tm) : Bool := match fldAt l x.field with
  | some f => decide (1 ≤ x.op) && decide (x.op ≤ 6) && decide ((x.value.size : Int) = f.bytes)
  | none => false
def grOk (l : List Fd) (g : List Tm) : Bool := decide (1 ≤ (g.length : Int)) && decide ((g.length : Int) ≤ 4) && g.all (tmOk l)
def cndOk (l : List Fd) (c : List (List Tm)) : Bool := decide ((c.length : Int) ≤ 4) && c.all (grOk l)
def stand (op : Int) (a c : ByteArray) : Bool :=
  if op = 1 then decide (a = c) else if op = 2 then !decide (a = c) else if op = 3 then bLt a c else if op = 4 then !bLt c a else if op = 5 then bLt c a else !bLt a c
def tmHold (l : List Fd) (d : ByteArray) (x : Tm) : Bool := match fldAt l x.field with
  | some f => decide (f.at' + f.bytes ≤ (d.size : Int)) && stand x.op (d.extract f.at'.toNat (f.at' + f.bytes).toNat) x.value
  | none => false
def grHold (l : List Fd) (d : ByteArray) (g : List Tm) : Bool := g.all (tmHold l d)
def cndHold (l : List Fd) (c : List (List Tm)) (d : ByteArray) : Bool := decide ((c.length : Int) = 0) || c.any (grHold l d)
theorem idxOf_find {α : Type} (p : α → Bool) (l : List α) : (idxOf p l = -1 ∧ l.find? p = none) ∨ ∃ (i : Nat) (x : α), idxOf p l = (i : Int) ∧ l[i]? = some x ∧ l.find? p = some x ∧ p x = true := by
  unfold idxOf
  induction l with
  | nil => exact .inl ⟨rfl, rfl⟩
  | cons a l ih =>
    rw [List.findIdx?_cons, List.find?_cons]
    cases ha : p a with
    | true => exact .inr ⟨0, a, rfl, rfl, rfl, ha⟩
    | false =>
      simp only [Bool.false_eq_true, if_false]
      rcases ih with ⟨h1, h2⟩ | ⟨i, x, h1, h2, h3, h4⟩
      · cases hl : l.findIdx? p with
        | none => exact .inl ⟨rfl, h2⟩
        | some j => rw [hl] at h1; simp only at h1; omega
      · cases hl : l.findIdx? p with
        | none => rw [hl] at h1; simp only at h1; omega
        | some j =>
          rw [hl] at h1
          simp only at h1
          have : j = i := by omega
          subst this
          exact .inr ⟨j + 1, x, rfl, h2, h3, h4⟩

/-! arguments -/
/-- the place of a letter among D, L and P -/
def letAt (c : UInt8) : Nat := if c = 68 then 0 else if c = 76 then 1 else if c = 80 then 2 else 3
def cdOk : Nat → List UInt8 → Bool
  | _, [] => true
  | k, c :: l => decide (letAt c < 3) && decide (k ≤ letAt c) && cdOk (letAt c + 1) l
def codesOk (a : Ar) : Bool := cdOk 0 a.codes.data.toList
def hasC (a : Ar) (c : UInt8) : Bool := a.codes.data.toList.any fun x => decide (x = c)
/-- the type with a name, or -1 -/
def tyIx (ts : List Ty) (n : ByteArray) : Int := idxOf (fun t => decide (t.name = n)) ts
def fdsOf (ts : List Ty) (t : Int) : List Fd := (tyOf ts t).fields
def isAb (ts : List Ty) (a t : Int) : Bool := decide (a ≠ t) && (anc ts t.toNat).any fun x => decide (a = x)
def sWell : ByteArray := ⟨#[32, 32]⟩
def sAJ : ByteArray := ⟨#[65, 74]⟩
def sAC : ByteArray := ⟨#[65, 67]⟩
def sAK : ByteArray := ⟨#[65, 75]⟩
/-- the status of an argument behind one of a type -/
def stat (ts : List Ty) (ab : Int) (a : Ar) : ByteArray :=
  if codesOk a = true then (if tyIx ts a.seg < 0 then sAC else if 0 ≤ ab ∧ isAb ts ab (tyIx ts a.seg) = false then sAC else if cndOk (fdsOf ts (tyIx ts a.seg)) a.whn = true then sWell else sAK) else sAJ
def chkA (ts : List Ty) : Int → List Ar → ByteArray
  | _, [] => sWell
  | ab, a :: l => if stat ts ab a = sWell then chkA ts (tyIx ts a.seg) l else stat ts ab a
def chkS (ts : List Ty) (l : List Ar) : ByteArray := if (5 : Int) < l.length then sAJ else chkA ts (-1) l
def tysA (ts : List Ty) (l : List Ar) : List Int := l.map fun a => tyIx ts a.seg
theorem stat_well {ts : List Ty} {ab : Int} {a : Ar} (h : stat ts ab a = sWell) : codesOk a = true ∧ 0 ≤ tyIx ts a.seg ∧ (0 ≤ ab → isAb ts ab (tyIx ts a.seg) = true) ∧ cndOk (fdsOf ts (tyIx ts a.seg)) a.whn = true := by
  unfold stat at h
  split at h
  case isFalse => cases h
  rename_i h1
  split at h
  · cases h
  rename_i h2
  split at h
  · cases h
  rename_i h3
  split at h
  case isFalse => cases h
  rename_i h4
  refine ⟨h1, by omega, fun h0 => ?_, h4⟩
  cases hi : isAb ts ab (tyIx ts a.seg) with
  | true => rfl
  | false => exact absurd ⟨h0, hi⟩ h3
theorem tyIx_cases (ts : List Ty) (n : ByteArray) : tyIx ts n = -1 ∨ ∃ (k : Nat) (t : Ty), tyIx ts n = (k : Int) ∧ ts[k]? = some t ∧ k < ts.length ∧ t.name = n := by
  rcases idxOf_find (fun t : Ty => decide (t.name = n)) ts with ⟨h1, _⟩ | ⟨i, x, h1, h2, _, h4⟩
  · exact .inl h1
  · exact .inr ⟨i, x, h1, h2, (List.getElem?_eq_some_iff.1 h2).1, by simpa using h4⟩
/-- arguments that are right: each type above the next -/
def Rise (ts : List Ty) : Int → List Ar → Prop
  | _, [] => True
  | ab, a :: l => stat ts ab a = sWell ∧ Rise ts (tyIx ts a.seg) l
theorem chkA_rise {ts : List Ty} : ∀ {l : List Ar} {ab : Int}, chkA ts ab l = sWell → Rise ts ab l
  | [], _, _ => trivial
  | a :: l, ab, h => by
    rw [chkA] at h
    split at h
    · rename_i h1; exact ⟨h1, chkA_rise h⟩
    · rename_i h1; exact absurd h h1
/-- what an argument's place says -/
theorem rise_at {ts : List Ty} : ∀ {l : List Ar} {ab : Int}, Rise ts ab l → ∀ {i : Nat} {a : Ar}, l[i]? = some a → ∃ ab', stat ts ab' a = sWell
  | [], _, _, i, a, h => by simp at h
  | x :: l, ab, ⟨h1, h2⟩, 0, a, h => by simp at h; subst h; exact ⟨ab, h1⟩
  | x :: l, ab, ⟨h1, h2⟩, i + 1, a, h => rise_at h2 (by simpa using h)
def catL : ByteArray → List ByteArray → ByteArray
  | acc, [] => acc
  | acc, s :: l => catL (acc ++ s) l
/-- the type of an item stands in a list, with the code D -/
def selP (f : List Item) (Z : List (Int × Ar)) (a : Int) : List ByteArray := match Z.find? fun z => decide (z.1 = typ f a) with
  | some z => if hasC z.2 68 = true then [dat f a] else []
  | none => []
end Go.Proofs.YtbdpceigmnpoaaaGreatDoor.Code

/- call: what the program asks of types: Type, Way, Depth, IsAbove, Fits, KeyOf. -/
set_option linter.unusedSimpArgs false
set_option linter.unusedVariables false
namespace Go.Proofs.YtbdpceigmnpoaaaGreatDoor.Code
open Go.Proofs.YtbdpceigmnpoaaaGreatDoor.Ev

theorem f163 (b : Base) (t : Int) (b1 : Nat) (H : Heap) (h1 : Sits H b1 (bBase b)) : cal (evC cprog) false 163 [.int .i64 t, .ptr b1 0 4 0 0] H = some (.bool (tyOut b.types t), H) := by
  rw [cal_of at163]
  have hlen := (sTys [] b.types).len
  simp only [List.length_map] at hlen
  have g1 := h1.at
  simp only [bBase] at g1
  simp only [c163, hlen, g1, evX, Int.reduceEq, Int.reduceLT, Int.reduceLE, Nat.reduceMul, Nat.reduceMod, evW, fn_eq, evR, Nat.reduceAdd, Nat.reduceLT, Nat.reduceLeDiff, reduceIte, Nat.reduceEqDiff, reduceCtorEq, argEnv, eq_self, if_true, if_false]
  repeat' ((first | rw [guardK_cases] | rw [condK_bool] | rw [guardD_cases]); split <;> simp only [c163, hlen, g1, evX, Int.reduceEq, Int.reduceLT, Int.reduceLE, Nat.reduceMul, Nat.reduceMod, evW, evR, Nat.reduceAdd, Nat.reduceLT, Nat.reduceLeDiff, reduceIte, Nat.reduceEqDiff, reduceCtorEq, argEnv, eq_self, if_true, if_false, *])
  all_goals (simp_all [tyOut]; try omega)
theorem f139 (b : Base) (hb : b.Ok) (a : AV) (hat : a.isTup = false) (l : List Int) (hl : l.length < 9223372036854775807) (H : Heap) (ha : SlAt H 1 a (l.map rI)) : cal (evC cprog) false 139 [eBase b, a] H = some (.int .i64 (errB b l), H) := by
  rw [cal_of at139]
  have h1 := f75 b hb
  simp only [eBase] at h1
  cases hv : validB b with
  | false =>
    simp only [c139, eBase, h1, hv, evX, Int.reduceEq, Int.reduceLT, Int.reduceLE, Nat.reduceMul, Nat.reduceMod, evW, fn_eq, evR, Nat.reduceAdd, Nat.reduceLT, Nat.reduceLeDiff, reduceIte, Nat.reduceEqDiff, reduceCtorEq, argEnv, eq_self, if_true, if_false]
    simp [errB, hv]
  | true =>
    have h67 := containsFunc_ok (g := 107) at67 (indexFunc_ok (sz := 1) (ag := false) at107 rI (fun x => .int .i64 x) lI 163 [.ptr H.length 0 4 0 0] (tyOut b.types) (H ++ [bBase b]) a l (ha.app _) hl fun x _ => f163 b x H.length _ (.mk (by simp)))
    simp only [bBase] at h67
    cases hc : l.any (tyOut b.types) with
    | false =>
      simp only [c139, eBase, h1, hv, h67, hc, scal_ptr, hat, evX, Int.reduceEq, Int.reduceLT, Int.reduceLE, Nat.reduceMul, Nat.reduceMod, evW, fn_eq, evR, Nat.reduceAdd, Nat.reduceLT, Nat.reduceLeDiff, reduceIte, Nat.reduceEqDiff, reduceCtorEq, argEnv, eq_self, if_true, if_false]
      simp [errB, hv, hc]
    | true =>
      simp only [c139, eBase, h1, hv, h67, hc, scal_ptr, hat, evX, Int.reduceEq, Int.reduceLT, Int.reduceLE, Nat.reduceMul, Nat.reduceMod, evW, fn_eq, evR, Nat.reduceAdd, Nat.reduceLT, Nat.reduceLeDiff, reduceIte, Nat.reduceEqDiff, reduceCtorEq, argEnv, eq_self, if_true, if_false]
      simp [errB, hv, hc]
theorem nil_slat (H : Heap) : SlAt H 1 .nils (([] : List Int).map rI) := ⟨rfl, fun i row hi => by simp at hi⟩
theorem f139n (b : Base) (hb : b.Ok) (H : Heap) : cal (evC cprog) false 139 [eBase b, .nils] H = some (.int .i64 (if validB b = true then 0 else 100), H) := by
  have := f139 b hb .nils rfl [] (by simp) H (nil_slat H)
  rw [this]; simp [errB]
theorem f139k (b : Base) (hb : b.Ok) (hv : validB b = true) (k : Nat) (hk : k < b.types.length) (H X : Heap) : cal (evC cprog) false 139 [eBase b, .ref (H.length + X.length) 0 1 0 1] (H ++ (X ++ [⟨0, true, 3, 1, [[.int .i64 (k : Int)]]⟩])) = some (.int .i64 0, H ++ (X ++ [⟨0, true, 3, 1, [[.int .i64 (k : Int)]]⟩])) := by
  rw [f139 b hb _ rfl [(k : Int)] (by simp) _ (one_slat H (k : Int) X), errB_ok hv hk]
theorem f140 (t : Ty) (d : ByteArray) (H : Heap) : cal (evC cprog) false 140 [.agg (rTy t), .str d] H = some (.bool (decide (t.min ≤ (d.size : Int)) && decide ((d.size : Int) ≤ t.size)), H) := by
  rw [cal_of at140]
  simp only [c140, rTy, evX, Int.reduceEq, Int.reduceLT, Int.reduceLE, Nat.reduceMul, Nat.reduceMod, evW, fn_eq, evR, Nat.reduceAdd, Nat.reduceLT, Nat.reduceLeDiff, reduceIte, Nat.reduceEqDiff, reduceCtorEq, argEnv, eq_self, if_true, if_false]
  repeat' ((first | rw [guardK_cases] | rw [condK_bool] | rw [guardD_cases]); split <;> simp only [c140, rTy, evX, Int.reduceEq, Int.reduceLT, Int.reduceLE, Nat.reduceMul, Nat.reduceMod, evW, evR, Nat.reduceAdd, Nat.reduceLT, Nat.reduceLeDiff, reduceIte, Nat.reduceEqDiff, reduceCtorEq, argEnv, eq_self, if_true, if_false, *])
  all_goals simp_all
theorem f141 (f : Fd) (h0 : 0 ≤ f.at') (h1 : 1 ≤ f.bytes) (h2 : f.at' + f.bytes ≤ 40) (d : ByteArray) (hd : f.at' + f.bytes ≤ (d.size : Int)) (H : Heap) :
    cal (evC cprog) false 141 [.agg (rFd f), .str d] H = some (.tup [.str (d.extract f.at'.toNat (f.at' + f.bytes).toNat), .bool true], H) := by
  rw [cal_of at141]
  have hw := wrapQ (a := f.at') (b := f.bytes) (by omega) (by omega) (by omega) (by omega)
  have k2 : ¬ (d.size : Int) < f.at' + f.bytes := by omega
  have hsl := slcs_at d (a := f.at') (c := f.at' + f.bytes) h0 (by omega) (by omega)
  simp only [c141, rFd, k2, hw, p_slcs, slcsK_some, asNat_int h0, asNat_int (show 0 ≤ f.at' + f.bytes by omega), hsl, evX, Int.reduceEq, Int.reduceLT, Int.reduceLE, Nat.reduceMul, Nat.reduceMod, evW, fn_eq, evR, Nat.reduceAdd, Nat.reduceLT, Nat.reduceLeDiff, reduceIte, Nat.reduceEqDiff, reduceCtorEq, argEnv, eq_self, if_true, if_false]
theorem f119 (b : Base) (hb : b.Ok) (hv : validB b = true) (k : Nat) (t : Ty) (ht : b.types[k]? = some t) (d : ByteArray) (H : Heap) :
    cal (evC cprog) false 119 [eBase b, .int .i64 (k : Int), .str d] H = some (bEr (fits b.types ⟨(k : Int), d⟩) 0, H) := by
  rw [cal_of at119]
  have hk := (List.getElem?_eq_some_iff.1 ht).1
  have h139 := f139k b hb hv k hk H [bBase b]
  simp only [eBase, bBase, bI, List.length_cons, List.length_nil, Nat.zero_add, List.cons_append, List.nil_append] at h139
  have hat := aTy ht
  have h140 := f140 t d
  rw [fits_at (x := ⟨(k : Int), d⟩) rfl ht]
  simp only [rTy] at h140
  simp only [c119, eBase, h139, hat, rTy, h140, bEr, evX, Int.reduceEq, Int.reduceLT, Int.reduceLE, Nat.reduceMul, Nat.reduceMod, evW, fn_eq, evR, Nat.reduceAdd, Nat.reduceLT, Nat.reduceLeDiff, reduceIte, Nat.reduceEqDiff, reduceCtorEq, argEnv, eq_self, if_true, if_false]
theorem f109 (b : Base) (hb : b.Ok) (hv : validB b = true) (k : Nat) (t : Ty) (ht : b.types[k]? = some t) (hty : tyOk t = true) (d : ByteArray) (hf : fits b.types ⟨(k : Int), d⟩ = true) (H : Heap) :
    cal (evC cprog) false 109 [eBase b, .int .i64 (k : Int), .str d] H = some (.tup [.str (keyOf t d), .int .i64 0], H) := by
  rw [cal_of at109]
  have hk := (List.getElem?_eq_some_iff.1 ht).1
  have h139 := f139k b hb hv k hk H [bBase b]
  simp only [eBase, bBase, bI, List.length_cons, List.length_nil, Nat.zero_add, List.cons_append, List.nil_append] at h139
  have hat := aTy ht
  have h140 := f140 t d
  rw [fits_at (x := ⟨(k : Int), d⟩) rfl ht] at hf
  rw [hf] at h140
  simp only [rTy] at h140
  by_cases hk : t.key < 0
  · simp only [c109, eBase, h139, hat, rTy, h140, hk, evX, Int.reduceEq, Int.reduceLT, Int.reduceLE, Nat.reduceMul, Nat.reduceMod, evW, fn_eq, evR, Nat.reduceAdd, Nat.reduceLT, Nat.reduceLeDiff, reduceIte, Nat.reduceEqDiff, reduceCtorEq, argEnv, eq_self, if_true, if_false]
    simp [keyOf, hk]
  · obtain ⟨m, f, h1, h2, h3, h4, h5, h6⟩ := key_in hty (by omega)
    have haf := aFd h2
    have k0 : ¬ (m : Int) < 0 := by omega
    simp only [Bool.and_eq_true, decide_eq_true_eq] at hf
    have h141 := f141 f h3 h4 (by omega) d (by omega)
    simp only [rFd] at h141
    rw [h1] at h140
    rw [keyOf_at h1 h2]
    simp only [c109, eBase, h139, hat, rTy, rFd, h140, h1, k0, haf, h141, evX, Int.reduceEq, Int.reduceLT, Int.reduceLE, Nat.reduceMul, Nat.reduceMod, evW, fn_eq, evR, Nat.reduceAdd, Nat.reduceLT, Nat.reduceLeDiff, reduceIte, Nat.reduceEqDiff, reduceCtorEq, argEnv, eq_self, if_true, if_false]
theorem f193 (t : Ty) (n : ByteArray) (b1 : Nat) (H : Heap) (h1 : Sits H b1 ⟨0, true, 9, 1, [[.str n]]⟩) : cal (evC cprog) false 193 [.agg (rTy t), .ptr b1 0 1 0 0] H = some (.bool (decide (t.name = n)), H) := by
  rw [cal_of at193]
  have g := fun X => h1 X
  simp only [Sits] at h1
  simp only [c193, rTy, h1, evX, Int.reduceEq, Int.reduceLT, Int.reduceLE, Nat.reduceMul, Nat.reduceMod, evW, fn_eq, evR, Nat.reduceAdd, Nat.reduceLT, Nat.reduceLeDiff, reduceIte, Nat.reduceEqDiff, reduceCtorEq, argEnv, eq_self, if_true, if_false]
def ixE (i : Int) : AV := if i < 0 then .tup [.int .i64 0, .int .i64 5] else .tup [.int .i64 i, .int .i64 0]
theorem f192 (i : Int) (H : Heap) : cal (evC cprog) false 192 [.int .i64 i] H = some (ixE i, H) := by
  rw [cal_of at192]
  by_cases h : i < 0
  · simp only [c192, h, ixE, evX, Int.reduceEq, Int.reduceLT, Int.reduceLE, Nat.reduceMul, Nat.reduceMod, evW, fn_eq, evR, Nat.reduceAdd, Nat.reduceLT, Nat.reduceLeDiff, reduceIte, Nat.reduceEqDiff, reduceCtorEq, argEnv, eq_self, if_true, if_false]
  · simp only [c192, h, ixE, evX, Int.reduceEq, Int.reduceLT, Int.reduceLE, Nat.reduceMul, Nat.reduceMod, evW, fn_eq, evR, Nat.reduceAdd, Nat.reduceLT, Nat.reduceLeDiff, reduceIte, Nat.reduceEqDiff, reduceCtorEq, argEnv, eq_self, if_true, if_false]
theorem f172 (b : Base) (hb : b.Ok) (hv : validB b = true) (n : ByteArray) (H : Heap) : cal (evC cprog) false 172 [eBase b, .str n] H = some (ixE (tyIx b.types n), H) := by
  rw [cal_of at172]
  have h139 := f139n b hb
  rw [hv, if_pos rfl] at h139
  have h167 := indexFunc_ok (sz := 8) (ag := true) at167 rTy (fun x => .agg (rTy x)) lTy 193 [.ptr (H.length + 1) 0 1 0 0] (fun t => decide (t.name = n)) (H ++ [bBase b, ⟨0, true, 9, 1, [[.str n]]⟩]) (eTys b.types) b.types (sTys _ _) hb.types fun x _ => f193 x n _ _ (.mk (by simp))
  change cal _ _ _ _ _ = some (.int .i64 (tyIx b.types n), _) at h167
  have h192 := f192 (tyIx b.types n)
  simp only [eBase, bBase] at h139 h167
  by_cases hn : tyIx b.types n < 0
  · simp only [ixE, hn, if_true] at h192
    simp only [c172, eBase, h139, h167, h192, scal_ptr, ixE, hn, evX, Int.reduceEq, Int.reduceLT, Int.reduceLE, Nat.reduceMul, Nat.reduceMod, evW, fn_eq, evR, Nat.reduceAdd, Nat.reduceLT, Nat.reduceLeDiff, reduceIte, Nat.reduceEqDiff, reduceCtorEq, argEnv, eq_self, if_true, if_false]
  · simp only [ixE, hn, if_false] at h192
    simp only [c172, eBase, h139, h167, h192, scal_ptr, ixE, hn, evX, Int.reduceEq, Int.reduceLT, Int.reduceLE, Nat.reduceMul, Nat.reduceMod, evW, fn_eq, evR, Nat.reduceAdd, Nat.reduceLT, Nat.reduceLeDiff, reduceIte, Nat.reduceEqDiff, reduceCtorEq, argEnv, eq_self, if_true, if_false]
end Go.Proofs.YtbdpceigmnpoaaaGreatDoor.Code

/- call: ways of types, of the program; depths; types above. -/
set_option linter.unusedSimpArgs false
set_option linter.unusedVariables false
namespace Go.Proofs.YtbdpceigmnpoaaaGreatDoor.Code
open Go.Proofs.YtbdpceigmnpoaaaGreatDoor.Ev

/-- a list that has grown, turned around by slices.Reverse, and frozen -/
theorem rev_out {K X H : Heap} {rv : AV} {l : List Int} (hO : Out K.length 1 3 X rv (l.reverse.map rI)) (hne : l ≠ []) (hl : l.length ≤ 1000) (kt : ∀ Z, (K ++ Z).take H.length = H) (hK : H.length ≤ K.length) :
    ∃ Z ids, cal (evC cprog) false 138 [rv] (K ++ X) = some (.tup [], Z) ∧ rv.isTup = false ∧ rv.scal = true ∧ fz Z fzDepth rv = some (eIs l, ids) ∧ (∀ x ∈ ids, H.length ≤ x) ∧ Z.take H.length = H := by
  have hp0 := List.length_pos_iff.2 hne
  rcases hO with ⟨h1, _⟩ | ⟨_, j, v, rfl, hXj⟩
  · exact absurd (by simpa using h1) hne
  have hat : (K ++ X)[K.length + j]? = some ⟨v, true, 3, 1, l.reverse.map rI⟩ := by rw [at_app]; exact hXj
  have h138 := f138 (K ++ X) (K.length + j) v l.reverse hat (by simpa using hp0) (by simpa using hl)
  have hbl := (List.getElem?_eq_some_iff.1 hat).1
  rw [List.reverse_reverse] at h138
  simp only [List.length_reverse] at h138
  obtain ⟨ids, g1, g2⟩ := fz_blk (H := (K ++ X).set (K.length + j) ⟨v, true, 3, 1, l.map rI⟩) (b := K.length + j) (v := v) (sz := 1) (len := l.length) (k := ⟨v, true, 3, 1, l.map rI⟩) (by simp only [curBlk, List.getElem?_set_self hbl]; rfl) (rows := l.map rI) (by show (l.map rI).take l.length = _; rw [List.take_of_length_le (by simp)]) (plain_ints _) 6
  have hlr : (l.reverse.map rI).length = l.length := by simp
  rw [hlr]
  exact ⟨_, ids, h138, rfl, rfl, g1, fun x hx => by rw [g2 x hx]; omega, by rw [List.take_set_of_le (by omega)]; exact kt X⟩
/-- a walk up the types: what is ahead, and what was walked -/
structure WalkT (ts : List Ty) (k : Nat) (c : Int) (acc : List Int) : Prop where
  lo : -1 ≤ c
  hi : c < (ts.length : Int)
  eq : anc ts k = ancI ts c ++ acc
  len : (acc.length : Int) + c ≤ (ts.length : Int)
theorem WalkT.step {ts : List Ty} {k c : Nat} {acc : List Int} {t : Ty} (hg : Good ts ts.length) (w : WalkT ts k (c : Int) acc) (ht : ts[c]? = some t) : WalkT ts k t.parent ((c : Int) :: acc) := by
  have h1 := w.hi
  have hc : c < ts.length := by omega
  have hp := hg c t hc ht
  refine ⟨hp.1, by omega, ?_, by have := w.len; simp; omega⟩
  rw [w.eq, ancI_nat, anc_step hg hc ht, List.append_assoc]; rfl
theorem WalkT.last {ts : List Ty} {k : Nat} {c : Int} {acc : List Int} (w : WalkT ts k c acc) (h : c < 0) : acc = anc ts k := by
  rw [w.eq, ancI_neg _ h]; rfl
theorem f195 (b : Base) (hb : b.Ok) (hv : validB b = true) (k : Nat) (hk : k < b.types.length) (H : Heap) : cal (evC cprog) true 195 [eBase b, .int .i64 (k : Int)] H = some (eIs (anc b.types k), H) := by
  rw [cal_of at195]
  have hg := tys_good (valid_tys hv)
  have h8 := (hb.lens hv).1
  obtain ⟨K, hK⟩ : ∃ K : Heap, K = H ++ [bBase b] := ⟨_, rfl⟩
  have kl : K.length = H.length + 1 := by rw [hK]; simp
  have kt : ∀ Z, (K ++ Z).take H.length = H := fun Z => by rw [hK]; simp
  have kb : ∀ Z, (K ++ Z)[H.length]? = some (bBase b) := fun Z => by rw [hK]; simp
  have L := fun (st : St) (hE : keepEnv st.1 [1, 2, 5] = [(1, .int .i64 (k : Int)), (2, .ptr H.length 0 4 0 0), (5, .nils)]) (hH : st.2 = K) (z : Option (CX × St)) (hz : itLim (evCode (evC cprog) itLim c195_l0) st = z) =>
    loop_rule (σ := Int × List Int × Heap × AV) (m := [1, 2, 5]) (env := fun s => [(1, .int .i64 s.1), (2, .ptr H.length 0 4 0 0), (5, s.2.2.2)]) (hp := fun s => K ++ s.2.2.1)
    (P := fun _ r => ∃ T X rv, r = (.exit 0, T, K ++ X) ∧ keepEnv T [5] = [(5, rv)] ∧ Out K.length 1 3 X rv ((anc b.types k).reverse.map rI))
    (mu := fun s => (s.1 + 1).toNat) (I := fun s => WalkT b.types k s.1 s.2.1 ∧ Out K.length 1 3 s.2.2.1 s.2.2.2 (s.2.1.reverse.map rI)) (evCode (evC cprog) itLim c195_l0) (by
      intro ⟨c, acc, X, rv⟩ ⟨w, hO⟩ E hE
      simp only at w hO hE ⊢
      have h1 := w.lo
      have h2 := w.hi
      have h3 := w.len
      by_cases hc : 0 ≤ c
      · obtain ⟨c, rfl⟩ : ∃ k : Nat, c = (k : Int) := ⟨c.toNat, by omega⟩
        obtain ⟨t, ht⟩ : ∃ t, b.types[c]? = some t := ⟨_, List.getElem?_eq_getElem (by omega)⟩
        have hat := aTy ht
        have w2 := w.step hg ht
        have hp := hg c t (by omega) ht
        obtain ⟨rv1, X1, a1, t1, O1⟩ := (hO.more [⟨0, true, 3, 1, [[.int .i64 (c : Int)]]⟩]).app K rfl 8 (.ref (K.length + X.length) 0 1 0 1) [rI (c : Int)] (by simp [srcRows, rowsOf, curBlk, ← List.append_assoc, rI]) (by simp [rI]) (by simp [reach]; omega)
        have hra : acc.reverse.map rI ++ [rI (c : Int)] = ((c : Int) :: acc).reverse.map rI := by simp
        rw [hra] at O1
        simp only [bBase] at kb
        simp only [c195_l0, hE, hc, kb, hat, rTy, a1, t1, evX, Int.reduceEq, Int.reduceLT, Int.reduceLE, Nat.reduceMul, Nat.reduceMod, evW, fn_eq, evR, Nat.reduceAdd, Nat.reduceLT, Nat.reduceLeDiff, reduceIte, Nat.reduceEqDiff, reduceCtorEq, argEnv, eq_self, if_true, if_false]
        exact q_next (t.parent, (c : Int) :: acc, X1, rv1) (by rfl) rfl ⟨w2, O1⟩ (by simp only; omega) fun r h => h
      · simp only [c195_l0, hE, hc, evX, Int.reduceEq, Int.reduceLT, Int.reduceLE, Nat.reduceMul, Nat.reduceMod, evW, fn_eq, evR, Nat.reduceAdd, Nat.reduceLT, Nat.reduceLeDiff, reduceIte, Nat.reduceEqDiff, reduceCtorEq, argEnv, eq_self, if_true, if_false]
        rw [w.last (by omega)] at hO
        exact q_exit ⟨_, X, rv, rfl, by rfl, hO⟩) ((k : Int), [], [], .nils) st ⟨⟨by omega, by omega, by rw [ancI_nat, List.append_nil], by simp; omega⟩, .nils ..⟩ hE (by simpa using hH) z hz
  simp only [c195, eBase, evX, Int.reduceEq, Int.reduceLT, Int.reduceLE, Nat.reduceMul, Nat.reduceMod, evW, fn_eq, evR, Nat.reduceAdd, Nat.reduceLT, Nat.reduceLeDiff, reduceIte, Nat.reduceEqDiff, reduceCtorEq, argEnv, eq_self, if_true, if_false]
  generalize hz : itLim _ _ = z
  obtain ⟨_, rfl, T, X, rv, rfl, hT, hO⟩ := L _ (by rfl) (by rw [hK]; rfl) z hz
  clear hz L
  have hpl := anc_len b.types k k (Nat.le_refl _)
  obtain ⟨Z, ids, h138, hsc, hs2, g1, g2, ht⟩ := rev_out hO (anc_ne _ _) (by omega) kt (by omega)
  generalize K ++ X = Y at *
  simp only [hT, h138, hsc, evX, Int.reduceEq, Int.reduceLT, Int.reduceLE, Nat.reduceMul, Nat.reduceMod, evW, fn_eq, evR, Nat.reduceAdd, Nat.reduceLT, Nat.reduceLeDiff, reduceIte, Nat.reduceEqDiff, reduceCtorEq, argEnv, eq_self, if_true, if_false]
  exact frz_one g1 hs2 ht g2
theorem f230 (b : Base) (hb : b.Ok) (hv : validB b = true) (k : Nat) (hk : k < b.types.length) (H : Heap) : cal (evC cprog) true 230 [eBase b, .int .i64 (k : Int)] H = some (.tup [eIs (anc b.types k), .int .i64 0], H) := by
  rw [cal_of at230]
  have h139 := f139k b hb hv k hk H [bBase b]
  have h195 := f195 b hb hv k hk
  have hcu : (eIs (anc b.types k)).cells = [eIs (anc b.types k)] := rfl
  have htu : (eIs (anc b.types k)).isTup = false := rfl
  simp only [eBase, bBase, List.length_cons, List.length_nil, Nat.zero_add, List.cons_append, List.nil_append] at h139 h195
  simp only [c230, eBase, h139, h195, hcu, htu, evX, Int.reduceEq, Int.reduceLT, Int.reduceLE, Nat.reduceMul, Nat.reduceMod, evW, fn_eq, evR, Nat.reduceAdd, Nat.reduceLT, Nat.reduceLeDiff, reduceIte, Nat.reduceEqDiff, reduceCtorEq, argEnv, eq_self, if_true, if_false]
  exact calK_frz (ids := []) rfl rfl (by simp) (by simp)
theorem f214 (b : Base) (hb : b.Ok) (hv : validB b = true) (k : Nat) (hk : k < b.types.length) (H : Heap) : cal (evC cprog) false 214 [eBase b, .int .i64 (k : Int)] H = some (.tup [.int .i64 ((anc b.types k).length : Int), .int .i64 0], H) := by
  rw [cal_of at214]
  have h230 := f230 b hb hv k hk
  have hlen := (sIs [] (anc b.types k)).len
  simp only [List.length_map] at hlen
  simp only [eBase] at h230
  simp only [c214, eBase, h230, hlen, evX, Int.reduceEq, Int.reduceLT, Int.reduceLE, Nat.reduceMul, Nat.reduceMod, evW, fn_eq, evR, Nat.reduceAdd, Nat.reduceLT, Nat.reduceLeDiff, reduceIte, Nat.reduceEqDiff, reduceCtorEq, argEnv, eq_self, if_true, if_false]
theorem f194 (n : Int) (l : List Int) (hl : l.length < 9223372036854775807) (H : Heap) : cal (evC cprog) false 194 [eIs l, .int .i64 n] H = some (.bool (l.any fun x => decide (n = x)), H) := by
  rw [cal_of at194]
  have h110 := f110 n H (eIs l) l (sIs H l) hl
  have h := idxOf_nonneg (fun x => decide (n = x)) l
  simp only [c194, h110, h, evX, Int.reduceEq, Int.reduceLT, Int.reduceLE, Nat.reduceMul, Nat.reduceMod, evW, fn_eq, evR, Nat.reduceAdd, Nat.reduceLT, Nat.reduceLeDiff, reduceIte, Nat.reduceEqDiff, reduceCtorEq, argEnv, eq_self, if_true, if_false]
theorem two_slat (H : Heap) (n m : Int) (X : Heap) : SlAt (H ++ (X ++ [⟨0, true, 3, 1, [[.int .i64 n], [.int .i64 m]]⟩])) 1 (.ref (H.length + X.length) 0 1 0 2) ([n, m].map rI) :=
  .ref (rows := [n, m].map rI) (k := ⟨0, true, 3, 1, [n, m].map rI⟩) (by simp [curBlk, at_app, rI]) fun i row hi => by
    refine ⟨?_, by simpa using hi⟩
    obtain ⟨y, _, rfl⟩ := List.mem_map.1 (List.mem_of_getElem? hi)
    rfl
theorem f173 (b : Base) (hb : b.Ok) (hv : validB b = true) (a k : Nat) (ha : a < b.types.length) (hk : k < b.types.length) (H : Heap) : cal (evC cprog) false 173 [eBase b, .int .i64 (a : Int), .int .i64 (k : Int)] H = some (bEr (isAb b.types (a : Int) (k : Int)) 0, H) := by
  rw [cal_of at173]
  have h139 := f139 b hb (.ref (H.length + 1) 0 1 0 2) rfl [(a : Int), (k : Int)] (by simp) _ (two_slat H a k [bBase b])
  have he : errB b [(a : Int), (k : Int)] = 0 := by
    have h1 : tyOut b.types (a : Int) = false := by simp [tyOut]; omega
    have h2 : tyOut b.types (k : Int) = false := by simp [tyOut]; omega
    unfold errB
    rw [if_pos hv, if_neg (by simp [h1, h2])]
  rw [he] at h139
  have h195 := f195 b hb hv k hk
  have hal := anc_len b.types k k (Nat.le_refl _)
  have h194 := f194 (a : Int) (anc b.types k) (by have := (hb.lens hv).1; omega)
  simp only [eBase, bBase, List.length_cons, List.length_nil, Nat.zero_add, List.cons_append, List.nil_append] at h139 h195
  have e : isAb b.types (a : Int) (k : Int) = (decide ((a : Int) ≠ (k : Int)) && (anc b.types k).any fun x => decide ((a : Int) = x)) := by simp [isAb]
  rw [e]
  by_cases hak : (a : Int) = (k : Int)
  · obtain rfl : a = k := by omega
    simp only [c173, eBase, h139, bEr, evX, Int.reduceEq, Int.reduceLT, Int.reduceLE, Nat.reduceMul, Nat.reduceMod, evW, fn_eq, evR, Nat.reduceAdd, Nat.reduceLT, Nat.reduceLeDiff, reduceIte, Nat.reduceEqDiff, reduceCtorEq, argEnv, eq_self, if_true, if_false]
    simp [bEr]
  · have hd : decide ((a : Int) ≠ (k : Int)) = true := by simpa using hak
    rw [hd, Bool.true_and]
    generalize ((anc b.types k).any fun x => decide ((a : Int) = x)) = q at *
    simp only [c173, eBase, h139, h195, h194, hak, bEr, evX, Int.reduceEq, Int.reduceLT, Int.reduceLE, Nat.reduceMul, Nat.reduceMod, evW, fn_eq, evR, Nat.reduceAdd, Nat.reduceLT, Nat.reduceLeDiff, reduceIte, Nat.reduceEqDiff, reduceCtorEq, argEnv, eq_self, if_true, if_false]
end Go.Proofs.YtbdpceigmnpoaaaGreatDoor.Code

/- call: conditions, of the program. -/
set_option linter.unusedSimpArgs false
set_option linter.unusedVariables false
namespace Go.Proofs.YtbdpceigmnpoaaaGreatDoor.Code
open Go.Proofs.YtbdpceigmnpoaaaGreatDoor.Ev

def fdIx (l : List Fd) (n : ByteArray) : Int := idxOf (fun f => decide (f.name = n)) l
theorem fdIx_cases (l : List Fd) (n : ByteArray) : (fdIx l n = -1 ∧ fldAt l n = none) ∨ ∃ (i : Nat) (f : Fd), fdIx l n = (i : Int) ∧ l[i]? = some f ∧ fldAt l n = some f := by
  rcases idxOf_find (fun f : Fd => decide (f.name = n)) l with ⟨h1, h2⟩ | ⟨i, x, h1, h2, h3, _⟩
  · exact .inl ⟨h1, h2⟩
  · exact .inr ⟨i, x, h1, h2, h3⟩
theorem f221 (f : Fd) (n : ByteArray) (b1 : Nat) (H : Heap) (h1 : Sits H b1 ⟨0, true, 9, 1, [[.str n]]⟩) : cal (evC cprog) false 221 [.agg (rFd f), .ptr b1 0 1 0 0] H = some (.bool (decide (f.name = n)), H) := by
  rw [cal_of at221]
  simp only [Sits] at h1
  simp only [c221, rFd, h1, evX, Int.reduceEq, Int.reduceLT, Int.reduceLE, Nat.reduceMul, Nat.reduceMod, evW, fn_eq, evR, Nat.reduceAdd, Nat.reduceLT, Nat.reduceLeDiff, reduceIte, Nat.reduceEqDiff, reduceCtorEq, argEnv, eq_self, if_true, if_false]
theorem f201 (t : Ty) (hl : t.fields.length < 9223372036854775807) (n : ByteArray) (H : Heap) : cal (evC cprog) false 201 [.agg (rTy t), .str n] H = some (.tup [.int .i64 (fdIx t.fields n), .bool (decide (0 ≤ fdIx t.fields n))], H) := by
  rw [cal_of at201]
  have h213 := indexFunc_ok (sz := 3) (ag := true) at213 rFd (fun x => .agg (rFd x)) lFd 221 [.ptr (H.length + 1) 0 1 0 0] (fun f => decide (f.name = n)) (H ++ [bTy t, ⟨0, true, 9, 1, [[.str n]]⟩]) (eFds t.fields) t.fields (sFds _ _) hl fun x _ => f221 x n _ _ (.mk (by simp))
  change cal _ _ _ _ _ = some (.int .i64 (fdIx t.fields n), _) at h213
  simp only [bTy, rTy] at h213
  simp only [c201, rTy, h213, scal_ptr, evX, Int.reduceEq, Int.reduceLT, Int.reduceLE, Nat.reduceMul, Nat.reduceMod, evW, fn_eq, evR, Nat.reduceAdd, Nat.reduceLT, Nat.reduceLeDiff, reduceIte, Nat.reduceEqDiff, reduceCtorEq, argEnv, eq_self, if_true, if_false]
theorem f217 (t : Ty) (hl : t.fields.length < 9223372036854775807) (x : Tm) (H : Heap) : cal (evC cprog) false 217 [.agg (rTy t), .agg (rTm x)] H = some (.bool (tmOk t.fields x), H) := by
  rw [cal_of at217]
  have h201 := f201 t hl x.field
  simp only [rTy] at h201
  rcases fdIx_cases t.fields x.field with ⟨h1, h2⟩ | ⟨i, f, h1, h2, h3⟩
  · have n0 : ¬ (0 : Int) ≤ -1 := by omega
    rw [h1, decide_eq_false n0] at h201
    simp only [c217, rTy, rTm, h201, evX, Int.reduceEq, Int.reduceLT, Int.reduceLE, Nat.reduceMul, Nat.reduceMod, evW, fn_eq, evR, Nat.reduceAdd, Nat.reduceLT, Nat.reduceLeDiff, reduceIte, Nat.reduceEqDiff, reduceCtorEq, argEnv, eq_self, if_true, if_false]
    simp [tmOk, h2]
  · have n0 : (0 : Int) ≤ (i : Int) := by omega
    rw [h1, decide_eq_true n0] at h201
    have haf := aFd h2
    have e : tmOk t.fields x = (decide (1 ≤ x.op) && decide (x.op ≤ 6) && decide ((x.value.size : Int) = f.bytes)) := by simp only [tmOk, h3]
    rw [e]
    by_cases n1 : 1 ≤ x.op
    · by_cases n2 : x.op ≤ 6
      · simp only [c217, rTy, rTm, rFd, h201, haf, n1, n2, evX, Int.reduceEq, Int.reduceLT, Int.reduceLE, Nat.reduceMul, Nat.reduceMod, evW, fn_eq, evR, Nat.reduceAdd, Nat.reduceLT, Nat.reduceLeDiff, reduceIte, Nat.reduceEqDiff, reduceCtorEq, argEnv, eq_self, if_true, if_false]
      · simp only [c217, rTy, rTm, rFd, h201, haf, n1, n2, evX, Int.reduceEq, Int.reduceLT, Int.reduceLE, Nat.reduceMul, Nat.reduceMod, evW, fn_eq, evR, Nat.reduceAdd, Nat.reduceLT, Nat.reduceLeDiff, reduceIte, Nat.reduceEqDiff, reduceCtorEq, argEnv, eq_self, if_true, if_false]
    · simp only [c217, rTy, rTm, rFd, h201, haf, n1, evX, Int.reduceEq, Int.reduceLT, Int.reduceLE, Nat.reduceMul, Nat.reduceMod, evW, fn_eq, evR, Nat.reduceAdd, Nat.reduceLT, Nat.reduceLeDiff, reduceIte, Nat.reduceEqDiff, reduceCtorEq, argEnv, eq_self, if_true, if_false]
theorem f216 (t : Ty) (hl : t.fields.length < 9223372036854775807) (x : Tm) (b1 : Nat) (H : Heap) (h1 : Sits H b1 (bTy t)) : cal (evC cprog) false 216 [.agg (rTm x), .ptr b1 0 8 0 0] H = some (.bool (!tmOk t.fields x), H) := by
  rw [cal_of at216]
  have h217 := f217 t hl x
  simp only [Sits, bTy, rTy] at h1
  simp only [rTy, rTm] at h217
  simp only [c216, rTm, h1, h217, evX, Int.reduceEq, Int.reduceLT, Int.reduceLE, Nat.reduceMul, Nat.reduceMod, evW, fn_eq, evR, Nat.reduceAdd, Nat.reduceLT, Nat.reduceLeDiff, reduceIte, Nat.reduceEqDiff, reduceCtorEq, argEnv, eq_self, if_true, if_false]
theorem any_not {α : Type} (p : α → Bool) (l : List α) : (l.any fun x => !p x) = !l.all p := by
  rw [List.all_eq_not_any_not, Bool.not_not]
theorem f215 (t : Ty) (hl : t.fields.length < 9223372036854775807) (g : List Tm) (hg : g.length < 9223372036854775807) (b1 : Nat) (H : Heap) (h1 : Sits H b1 (bTy t)) : cal (evC cprog) false 215 [eTms g, .ptr b1 0 8 0 0] H = some (.bool (!grOk t.fields g), H) := by
  rw [cal_of at215]
  have hlen := (sTms [] g).len
  simp only [List.length_map] at hlen
  have h204 := containsFunc_ok (g := 223) at204 (indexFunc_ok (sz := 3) (ag := true) at223 rTm (fun x => .agg (rTm x)) lTm 216 [.ptr b1 0 8 0 0] (fun x => !tmOk t.fields x) H (eTms g) g (sTms _ g) hg fun x _ => f216 t hl x b1 H h1)
  rw [any_not] at h204
  by_cases n1 : (g.length : Int) < 1
  · simp only [c215, hlen, n1, evX, Int.reduceEq, Int.reduceLT, Int.reduceLE, Nat.reduceMul, Nat.reduceMod, evW, fn_eq, evR, Nat.reduceAdd, Nat.reduceLT, Nat.reduceLeDiff, reduceIte, Nat.reduceEqDiff, reduceCtorEq, argEnv, eq_self, if_true, if_false]
    simp [grOk]; omega
  · by_cases n2 : (4 : Int) < (g.length : Int)
    · simp only [c215, hlen, n1, n2, evX, Int.reduceEq, Int.reduceLT, Int.reduceLE, Nat.reduceMul, Nat.reduceMod, evW, fn_eq, evR, Nat.reduceAdd, Nat.reduceLT, Nat.reduceLeDiff, reduceIte, Nat.reduceEqDiff, reduceCtorEq, argEnv, eq_self, if_true, if_false]
      simp [grOk]; omega
    · simp only [c215, hlen, n1, n2, h204, scal_ptr, evX, Int.reduceEq, Int.reduceLT, Int.reduceLE, Nat.reduceMul, Nat.reduceMod, evW, fn_eq, evR, Nat.reduceAdd, Nat.reduceLT, Nat.reduceLeDiff, reduceIte, Nat.reduceEqDiff, reduceCtorEq, argEnv, eq_self, if_true, if_false]
      have e : grOk t.fields g = g.all (tmOk t.fields) := by simp only [grOk, decide_eq_true (show 1 ≤ (g.length : Int) by omega), decide_eq_true (show (g.length : Int) ≤ 4 by omega), Bool.true_and]
      rw [e]
theorem f197 (t : Ty) (hl : t.fields.length < 9223372036854775807) (c : List (List Tm)) (hc : c.length < 9223372036854775807) (hg : ∀ g ∈ c, g.length < 9223372036854775807) (H : Heap) : cal (evC cprog) false 197 [.agg (rTy t), eGrs c] H = some (.bool (cndOk t.fields c), H) := by
  rw [cal_of at197]
  have hlen := (sGrs [] c).len
  simp only [List.length_map] at hlen
  have h206 := containsFunc_ok (g := 224) at206 (indexFunc_ok (sz := 1) (ag := false) at224 rGr eTms lGr 215 [.ptr H.length 0 8 0 0] (fun g => !grOk t.fields g) (H ++ [bTy t]) (eGrs c) c (sGrs _ c) hc fun g hg' => f215 t hl g (hg g hg') _ _ (.mk (by simp)))
  rw [any_not] at h206
  simp only [bTy, rTy] at h206
  by_cases n1 : (c.length : Int) ≤ 4
  · simp only [c197, rTy, hlen, n1, h206, scal_ptr, evX, Int.reduceEq, Int.reduceLT, Int.reduceLE, Nat.reduceMul, Nat.reduceMod, evW, fn_eq, evR, Nat.reduceAdd, Nat.reduceLT, Nat.reduceLeDiff, reduceIte, Nat.reduceEqDiff, reduceCtorEq, argEnv, eq_self, if_true, if_false]
    simp [cndOk, n1]
  · simp only [c197, rTy, hlen, n1, evX, Int.reduceEq, Int.reduceLT, Int.reduceLE, Nat.reduceMul, Nat.reduceMod, evW, fn_eq, evR, Nat.reduceAdd, Nat.reduceLT, Nat.reduceLeDiff, reduceIte, Nat.reduceEqDiff, reduceCtorEq, argEnv, eq_self, if_true, if_false]
    simp [cndOk]; omega
theorem f196 (b : Base) (hb : b.Ok) (hv : validB b = true) (k : Nat) (hk : k < b.types.length) (H : Heap) : cal (evC cprog) false 196 [eBase b, .int .i64 (k : Int)] H = some (.int .i64 0, H) := by
  rw [cal_of at196]
  have h214 := f214 b hb hv k hk
  simp only [eBase] at h214
  simp only [c196, eBase, h214, evX, Int.reduceEq, Int.reduceLT, Int.reduceLE, Nat.reduceMul, Nat.reduceMod, evW, fn_eq, evR, Nat.reduceAdd, Nat.reduceLT, Nat.reduceLeDiff, reduceIte, Nat.reduceEqDiff, reduceCtorEq, argEnv, eq_self, if_true, if_false]
theorem f174 (b : Base) (hb : b.Ok) (hv : validB b = true) (k : Nat) (t : Ty) (ht : b.types[k]? = some t) (c : List (List Tm)) (hc : c.length < 9223372036854775807) (hg : ∀ g ∈ c, g.length < 9223372036854775807) (H : Heap) :
    cal (evC cprog) false 174 [eBase b, .int .i64 (k : Int), eGrs c] H = some (bEr (cndOk t.fields c) 0, H) := by
  rw [cal_of at174]
  have h196 := f196 b hb hv k (List.getElem?_eq_some_iff.1 ht).1
  have hat := aTy ht
  have h197 := f197 t (hb.type t (List.mem_of_getElem? ht)).fields c hc hg
  simp only [eBase] at h196
  simp only [rTy] at h197
  simp only [c174, eBase, h196, hat, rTy, h197, bEr, evX, Int.reduceEq, Int.reduceLT, Int.reduceLE, Nat.reduceMul, Nat.reduceMod, evW, fn_eq, evR, Nat.reduceAdd, Nat.reduceLT, Nat.reduceLeDiff, reduceIte, Nat.reduceEqDiff, reduceCtorEq, argEnv, eq_self, if_true, if_false]

/-! what holds -/
theorem cmp_cases : ∀ a c : List UInt8, (a = c ∧ Lib.compareBytes a c = 0) ∨ (a ≠ c ∧ Op.bytesLess a c = true ∧ Lib.compareBytes a c = -1) ∨ (a ≠ c ∧ Op.bytesLess a c = false ∧ Lib.compareBytes a c = 1)
  | [], [] => .inl ⟨rfl, rfl⟩
  | [], _ :: _ => .inr (.inl ⟨by simp, rfl, rfl⟩)
  | _ :: _, [] => .inr (.inr ⟨by simp, rfl, rfl⟩)
  | x :: a, y :: c => by
    rw [Lib.compareBytes]
    simp only [Op.bytesLess]
    by_cases h1 : x < y
    · have hne : x ≠ y := fun e => by rw [e] at h1; exact UInt8.lt_irrefl _ h1
      exact .inr (.inl ⟨by simp [hne], by simp [h1], by simp [h1]⟩)
    · by_cases h2 : y < x
      · have hne : x ≠ y := fun e => by rw [e] at h2; exact UInt8.lt_irrefl _ h2
        exact .inr (.inr ⟨by simp [hne], by simp [h1, hne], by simp [h1, h2]⟩)
      · have he : x = y := by
          apply UInt8.toNat_inj.1
          rw [UInt8.lt_iff_toNat_lt] at h1 h2
          omega
        subst he
        rcases cmp_cases a c with ⟨g1, g2⟩ | ⟨g1, g2, g3⟩ | ⟨g1, g2, g3⟩
        · exact .inl ⟨by rw [g1], by simp [h1, g2]⟩
        · exact .inr (.inl ⟨by simp [g1], by simp [g2], by simp [h1, g3]⟩)
        · exact .inr (.inr ⟨by simp [g1], by simp [h1, g2], by simp [h1, g3]⟩)
theorem cmp_str (a c : ByteArray) : (a = c ∧ Lib.compareBytes a.data.toList c.data.toList = 0) ∨ (a ≠ c ∧ bLt a c = true ∧ bLt c a = false ∧ Lib.compareBytes a.data.toList c.data.toList = -1) ∨ (a ≠ c ∧ bLt a c = false ∧ bLt c a = true ∧ Lib.compareBytes a.data.toList c.data.toList = 1) := by
  have ht := bLt_tri a c
  have e : a.data.toList = c.data.toList ↔ a = c := ⟨fun h => data_ext (Array.toList_inj.1 h), fun h => by rw [h]⟩
  have eb : bLt a c = Op.bytesLess a.data.toList c.data.toList := by unfold bLt; rw [toList_eq, toList_eq]
  rcases cmp_cases a.data.toList c.data.toList with ⟨g1, g2⟩ | ⟨g1, g2, g3⟩ | ⟨g1, g2, g3⟩
  · exact .inl ⟨e.1 g1, g2⟩
  · refine .inr (.inl ⟨fun h => g1 (e.2 h), by rw [eb, g2], ?_, g3⟩)
    rw [eb, g2] at ht
    simpa using ht.symm
  · have hne : a ≠ c := fun h => g1 (e.2 h)
    refine .inr (.inr ⟨hne, by rw [eb, g2], ?_, g3⟩)
    rw [eb, g2, decide_eq_false hne] at ht
    simpa using ht.symm
theorem fn_use {call it} {n : Nat} {res : List CRes} {p : List AV → Heap → Option (List AV × Heap)} (args : List AV) (H : Heap) : evFn call it ⟨n, res, .user p, false, false⟩ args H = bodyK res ((p args H).map fun r => (CX.ret, (argEnv 0 r.1, r.2))) := by
  rw [fn_eq]
  simp only [evCode, user_args]
theorem f222 (a c : ByteArray) (H : Heap) : cal (evC cprog) false 222 [.str a, .str c] H = some (.int .i64 (Lib.compareBytes a.data.toList c.data.toList), H) := by
  rw [cal_of at222, show c222 = ⟨0, [.t 0], .user pCmp, false, false⟩ from rfl, fn_use]
  simp only [pCmp]
  simp only [evX, Int.reduceEq, Int.reduceLT, Int.reduceLE, Nat.reduceMul, Nat.reduceMod, evW, fn_eq, evR, Nat.reduceAdd, Nat.reduceLT, Nat.reduceLeDiff, reduceIte, Nat.reduceEqDiff, reduceCtorEq, argEnv, eq_self, if_true, if_false]
theorem f202 (op : Int) (a c : ByteArray) (H : Heap) : cal (evC cprog) false 202 [.int .i64 op, .str a, .str c] H = some (.bool (stand op a c), H) := by
  rw [cal_of at202]
  have h222 := f222 a c
  rcases cmp_str a c with ⟨g1, g2⟩ | ⟨g1, g2, g3, g4⟩ | ⟨g1, g2, g3, g4⟩
  · subst g1
    rw [g2] at h222
    have hi := bLt_irrefl a
    by_cases o1 : op = 1
    · simp only [c202, h222, o1, Int.lt_irrefl, Int.le_refl, evX, Int.reduceEq, Int.reduceLT, Int.reduceLE, Nat.reduceMul, Nat.reduceMod, evW, fn_eq, evR, Nat.reduceAdd, Nat.reduceLT, Nat.reduceLeDiff, reduceIte, Nat.reduceEqDiff, reduceCtorEq, argEnv, eq_self, if_true, if_false]
      simp [stand]
    by_cases o2 : op = 2
    · simp only [c202, h222, o2, Int.lt_irrefl, Int.le_refl, evX, Int.reduceEq, Int.reduceLT, Int.reduceLE, Nat.reduceMul, Nat.reduceMod, evW, fn_eq, evR, Nat.reduceAdd, Nat.reduceLT, Nat.reduceLeDiff, reduceIte, Nat.reduceEqDiff, reduceCtorEq, argEnv, eq_self, if_true, if_false]
      simp [stand]
    by_cases o3 : op = 3
    · simp only [c202, h222, o3, Int.lt_irrefl, Int.le_refl, evX, Int.reduceEq, Int.reduceLT, Int.reduceLE, Nat.reduceMul, Nat.reduceMod, evW, fn_eq, evR, Nat.reduceAdd, Nat.reduceLT, Nat.reduceLeDiff, reduceIte, Nat.reduceEqDiff, reduceCtorEq, argEnv, eq_self, if_true, if_false]
      simp [stand, hi]
    by_cases o4 : op = 4
    · simp only [c202, h222, o4, Int.lt_irrefl, Int.le_refl, evX, Int.reduceEq, Int.reduceLT, Int.reduceLE, Nat.reduceMul, Nat.reduceMod, evW, fn_eq, evR, Nat.reduceAdd, Nat.reduceLT, Nat.reduceLeDiff, reduceIte, Nat.reduceEqDiff, reduceCtorEq, argEnv, eq_self, if_true, if_false]
      simp [stand, hi]
    by_cases o5 : op = 5
    · simp only [c202, h222, o5, Int.lt_irrefl, Int.le_refl, evX, Int.reduceEq, Int.reduceLT, Int.reduceLE, Nat.reduceMul, Nat.reduceMod, evW, fn_eq, evR, Nat.reduceAdd, Nat.reduceLT, Nat.reduceLeDiff, reduceIte, Nat.reduceEqDiff, reduceCtorEq, argEnv, eq_self, if_true, if_false]
      simp [stand, hi]
    · simp only [c202, h222, o1, o2, o3, o4, o5, Int.lt_irrefl, Int.le_refl, evX, Int.reduceEq, Int.reduceLT, Int.reduceLE, Nat.reduceMul, Nat.reduceMod, evW, fn_eq, evR, Nat.reduceAdd, Nat.reduceLT, Nat.reduceLeDiff, reduceIte, Nat.reduceEqDiff, reduceCtorEq, argEnv, eq_self, if_true, if_false]
      simp [stand, hi, o1, o2, o3, o4, o5]
  · rw [g4] at h222
    by_cases o1 : op = 1
    · simp only [c202, h222, o1, evX, Int.reduceEq, Int.reduceLT, Int.reduceLE, Nat.reduceMul, Nat.reduceMod, evW, fn_eq, evR, Nat.reduceAdd, Nat.reduceLT, Nat.reduceLeDiff, reduceIte, Nat.reduceEqDiff, reduceCtorEq, argEnv, eq_self, if_true, if_false]
      simp [stand, g1]
    by_cases o2 : op = 2
    · simp only [c202, h222, o2, evX, Int.reduceEq, Int.reduceLT, Int.reduceLE, Nat.reduceMul, Nat.reduceMod, evW, fn_eq, evR, Nat.reduceAdd, Nat.reduceLT, Nat.reduceLeDiff, reduceIte, Nat.reduceEqDiff, reduceCtorEq, argEnv, eq_self, if_true, if_false]
      simp [stand, g1]
    by_cases o3 : op = 3
    · simp only [c202, h222, o3, evX, Int.reduceEq, Int.reduceLT, Int.reduceLE, Nat.reduceMul, Nat.reduceMod, evW, fn_eq, evR, Nat.reduceAdd, Nat.reduceLT, Nat.reduceLeDiff, reduceIte, Nat.reduceEqDiff, reduceCtorEq, argEnv, eq_self, if_true, if_false]
      simp [stand, g2]
    by_cases o4 : op = 4
    · simp only [c202, h222, o4, evX, Int.reduceEq, Int.reduceLT, Int.reduceLE, Nat.reduceMul, Nat.reduceMod, evW, fn_eq, evR, Nat.reduceAdd, Nat.reduceLT, Nat.reduceLeDiff, reduceIte, Nat.reduceEqDiff, reduceCtorEq, argEnv, eq_self, if_true, if_false]
      simp [stand, g3]
    by_cases o5 : op = 5
    · simp only [c202, h222, o5, evX, Int.reduceEq, Int.reduceLT, Int.reduceLE, Nat.reduceMul, Nat.reduceMod, evW, fn_eq, evR, Nat.reduceAdd, Nat.reduceLT, Nat.reduceLeDiff, reduceIte, Nat.reduceEqDiff, reduceCtorEq, argEnv, eq_self, if_true, if_false]
      simp [stand, g3]
    · simp only [c202, h222, o1, o2, o3, o4, o5, evX, Int.reduceEq, Int.reduceLT, Int.reduceLE, Nat.reduceMul, Nat.reduceMod, evW, fn_eq, evR, Nat.reduceAdd, Nat.reduceLT, Nat.reduceLeDiff, reduceIte, Nat.reduceEqDiff, reduceCtorEq, argEnv, eq_self, if_true, if_false]
      simp [stand, g2, o1, o2, o3, o4, o5]
  · rw [g4] at h222
    by_cases o1 : op = 1
    · simp only [c202, h222, o1, evX, Int.reduceEq, Int.reduceLT, Int.reduceLE, Nat.reduceMul, Nat.reduceMod, evW, fn_eq, evR, Nat.reduceAdd, Nat.reduceLT, Nat.reduceLeDiff, reduceIte, Nat.reduceEqDiff, reduceCtorEq, argEnv, eq_self, if_true, if_false]
      simp [stand, g1]
    by_cases o2 : op = 2
    · simp only [c202, h222, o2, evX, Int.reduceEq, Int.reduceLT, Int.reduceLE, Nat.reduceMul, Nat.reduceMod, evW, fn_eq, evR, Nat.reduceAdd, Nat.reduceLT, Nat.reduceLeDiff, reduceIte, Nat.reduceEqDiff, reduceCtorEq, argEnv, eq_self, if_true, if_false]
      simp [stand, g1]
    by_cases o3 : op = 3
    · simp only [c202, h222, o3, evX, Int.reduceEq, Int.reduceLT, Int.reduceLE, Nat.reduceMul, Nat.reduceMod, evW, fn_eq, evR, Nat.reduceAdd, Nat.reduceLT, Nat.reduceLeDiff, reduceIte, Nat.reduceEqDiff, reduceCtorEq, argEnv, eq_self, if_true, if_false]
      simp [stand, g2]
    by_cases o4 : op = 4
    · simp only [c202, h222, o4, evX, Int.reduceEq, Int.reduceLT, Int.reduceLE, Nat.reduceMul, Nat.reduceMod, evW, fn_eq, evR, Nat.reduceAdd, Nat.reduceLT, Nat.reduceLeDiff, reduceIte, Nat.reduceEqDiff, reduceCtorEq, argEnv, eq_self, if_true, if_false]
      simp [stand, g3]
    by_cases o5 : op = 5
    · simp only [c202, h222, o5, evX, Int.reduceEq, Int.reduceLT, Int.reduceLE, Nat.reduceMul, Nat.reduceMod, evW, fn_eq, evR, Nat.reduceAdd, Nat.reduceLT, Nat.reduceLeDiff, reduceIte, Nat.reduceEqDiff, reduceCtorEq, argEnv, eq_self, if_true, if_false]
      simp [stand, g3]
    · simp only [c202, h222, o1, o2, o3, o4, o5, evX, Int.reduceEq, Int.reduceLT, Int.reduceLE, Nat.reduceMul, Nat.reduceMod, evW, fn_eq, evR, Nat.reduceAdd, Nat.reduceLT, Nat.reduceLeDiff, reduceIte, Nat.reduceEqDiff, reduceCtorEq, argEnv, eq_self, if_true, if_false]
      simp [stand, g2, o1, o2, o3, o4, o5]
end Go.Proofs.YtbdpceigmnpoaaaGreatDoor.Code

/- call: whether conditions hold, of the program. -/
set_option linter.unusedSimpArgs false
set_option linter.unusedVariables false
namespace Go.Proofs.YtbdpceigmnpoaaaGreatDoor.Code
open Go.Proofs.YtbdpceigmnpoaaaGreatDoor.Ev

theorem fld_in {t : Ty} (ht : tyOk t = true) {i : Nat} {f : Fd} (hf : t.fields[i]? = some f) : 0 ≤ f.at' ∧ 1 ≤ f.bytes ∧ f.at' + f.bytes ≤ 40 := by
  simp only [tyOk, Bool.and_eq_true, sizeOk, decide_eq_true_eq] at ht
  obtain ⟨h1, h2, h3, h4⟩ := fld_of ht.1.2 hf
  omega
theorem tmOk_at {t : Ty} {x : Tm} (h : tmOk t.fields x = true) : ∃ (i : Nat) (f : Fd), fdIx t.fields x.field = (i : Int) ∧ t.fields[i]? = some f ∧ fldAt t.fields x.field = some f := by
  rcases fdIx_cases t.fields x.field with ⟨_, h2⟩ | h
  · simp [tmOk, h2] at h
  · exact h
def bData (d : ByteArray) : Blk := ⟨0, true, 9, 1, [[.str d]]⟩
theorem f200 (t : Ty) (hl : t.fields.length < 9223372036854775807) (ht : tyOk t = true) (y : Tm) (hy : tmOk t.fields y = true) (d : ByteArray) (b1 b2 : Nat) (H : Heap) (h1 : Sits H b1 (bTy t)) (h2 : Sits H b2 (bData d)) :
    cal (evC cprog) false 200 [.agg (rTm y), .ptr b1 0 8 0 0, .ptr b2 0 1 0 0] H = some (.bool (tmHold t.fields d y), H) := by
  rw [cal_of at200]
  obtain ⟨i, f, g1, g2, g3⟩ := tmOk_at hy
  obtain ⟨q1, q2, q3⟩ := fld_in ht g2
  have h201 := f201 t hl y.field
  rw [g1] at h201
  have haf := aFd g2
  have hw := wrapQ (a := f.at') (b := f.bytes) (by omega) (by omega) (by omega) (by omega)
  have e : tmHold t.fields d y = (decide (f.at' + f.bytes ≤ (d.size : Int)) && stand y.op (d.extract f.at'.toNat (f.at' + f.bytes).toNat) y.value) := by simp only [tmHold, g3]
  rw [e]
  simp only [Sits, bTy, bData, rTy] at h1 h2
  simp only [rTy] at h201
  by_cases hd : f.at' + f.bytes ≤ (d.size : Int)
  · have hsl := slcs_at d (a := f.at') (c := f.at' + f.bytes) (by omega) (by omega) (by omega)
    have h202 := f202 y.op (d.extract f.at'.toNat (f.at' + f.bytes).toNat) y.value
    simp only [c200, rTm, rFd, h1, h2, h201, haf, hw, hd, p_slcs, slcsK_some, asNat_int q1, asNat_int (show 0 ≤ f.at' + f.bytes by omega), hsl, h202, evX, Int.reduceEq, Int.reduceLT, Int.reduceLE, Nat.reduceMul, Nat.reduceMod, evW, fn_eq, evR, Nat.reduceAdd, Nat.reduceLT, Nat.reduceLeDiff, reduceIte, Nat.reduceEqDiff, reduceCtorEq, argEnv, eq_self, if_true, if_false]
  · simp only [c200, rTm, rFd, h1, h2, h201, haf, hw, hd, evX, Int.reduceEq, Int.reduceLT, Int.reduceLE, Nat.reduceMul, Nat.reduceMod, evW, fn_eq, evR, Nat.reduceAdd, Nat.reduceLT, Nat.reduceLeDiff, reduceIte, Nat.reduceEqDiff, reduceCtorEq, argEnv, eq_self, if_true, if_false]
def bFn (b1 b2 : Nat) : Blk := ⟨0, true, 229, 1, [[.fn 200 [.ptr b1 0 8 0 0, .ptr b2 0 1 0 0]]]⟩
theorem f205 (t : Ty) (hl : t.fields.length < 9223372036854775807) (ht : tyOk t = true) (y : Tm) (hy : tmOk t.fields y = true) (d : ByteArray) (b1 b2 b3 : Nat) (H : Heap) (h1 : Sits H b1 (bTy t)) (h2 : Sits H b2 (bData d)) (h3 : Sits H b3 (bFn b1 b2)) :
    cal (evC cprog) false 205 [.agg (rTm y), .ptr b3 0 1 0 0] H = some (.bool (!tmHold t.fields d y), H) := by
  rw [cal_of at205]
  have h200 := f200 t hl ht y hy d b1 b2 (H ++ [⟨0, true, 84, 3, [rTm y]⟩]) (fun X => by rw [List.append_assoc]; exact h1 _) (fun X => by rw [List.append_assoc]; exact h2 _)
  simp only [Sits, bFn] at h3
  simp only [rTm] at h200
  simp only [c205, rTm, h3, h200, evX, Int.reduceEq, Int.reduceLT, Int.reduceLE, Nat.reduceMul, Nat.reduceMod, evW, fn_eq, evR, Nat.reduceAdd, Nat.reduceLT, Nat.reduceLeDiff, reduceIte, Nat.reduceEqDiff, reduceCtorEq, argEnv, eq_self, if_true, if_false]
theorem f203 (t : Ty) (hl : t.fields.length < 9223372036854775807) (ht : tyOk t = true) (g : List Tm) (hgl : g.length < 9223372036854775807) (hy : g.all (tmOk t.fields) = true) (d : ByteArray) (b1 b2 b3 : Nat) (H : Heap) (h1 : Sits H b1 (bTy t)) (h2 : Sits H b2 (bData d)) (h3 : Sits H b3 (bFn b1 b2)) :
    cal (evC cprog) false 203 [eTms g, .ptr b3 0 1 0 0] H = some (.bool (grHold t.fields d g), H) := by
  rw [cal_of at203]
  have h204 := containsFunc_ok (g := 223) at204 (indexFunc_ok (sz := 3) (ag := true) at223 rTm (fun x => .agg (rTm x)) lTm 205 [.ptr b3 0 1 0 0] (fun x => !tmHold t.fields d x) H (eTms g) g (sTms _ g) hgl fun x hx => f205 t hl ht x (List.all_eq_true.1 hy x hx) d b1 b2 b3 H h1 h2 h3)
  rw [any_not] at h204
  simp only [c203, h204, scal_ptr, Bool.not_not, evX, Int.reduceEq, Int.reduceLT, Int.reduceLE, Nat.reduceMul, Nat.reduceMod, evW, fn_eq, evR, Nat.reduceAdd, Nat.reduceLT, Nat.reduceLeDiff, reduceIte, Nat.reduceEqDiff, reduceCtorEq, argEnv, eq_self, if_true, if_false]
  rfl
theorem f220 (t : Ty) (hl : t.fields.length < 9223372036854775807) (c : List (List Tm)) (hc : c.length < 9223372036854775807) (hg : ∀ g ∈ c, g.length < 9223372036854775807) (b1 : Nat) (H : Heap) (h1 : Sits H b1 (bTy t)) : cal (evC cprog) false 220 [eGrs c, .ptr b1 0 8 0 0] H = some (.bool (!cndOk t.fields c), H) := by
  rw [cal_of at220]
  have h197 := f197 t hl c hc hg
  have h10 := h1.at
  simp only [bTy, rTy] at h10
  simp only [rTy] at h197
  simp only [c220, h10, h197, evX, Int.reduceEq, Int.reduceLT, Int.reduceLE, Nat.reduceMul, Nat.reduceMod, evW, fn_eq, evR, Nat.reduceAdd, Nat.reduceLT, Nat.reduceLeDiff, reduceIte, Nat.reduceEqDiff, reduceCtorEq, argEnv, eq_self, if_true, if_false]
def rCn (c : List (List Tm)) : List AV := [eGrs c]
theorem f199 (b : Base) (hb : b.Ok) (hv : validB b = true) (k : Nat) (t : Ty) (ht : b.types[k]? = some t) (c : List (List Tm)) (hc : c.length < 9223372036854775807) (hg : ∀ g ∈ c, g.length < 9223372036854775807) (hok : cndOk t.fields c = true) (a : AV) (hat : a.isTup = false) (H : Heap) (ha : SlAt H 1 a ([c].map rCn)) :
    cal (evC cprog) false 199 [eBase b, .int .i64 (k : Int), a] H = some (.tup [.agg (rTy t), .int .i64 0], H) := by
  rw [cal_of at199]
  have h196 := f196 b hb hv k (List.getElem?_eq_some_iff.1 ht).1
  have haty := aTy ht
  have hl := (hb.type t (List.mem_of_getElem? ht)).fields
  have h219 := containsFunc_ok (g := 231) at219 (indexFunc_ok (sz := 1) (ag := false) at231 rCn eGrs (fun x => ⟨rfl, rfl, rfl⟩) 220 [.ptr (H.length + 2) 0 8 0 0] (fun c => !cndOk t.fields c) (H ++ [bBase b, ⟨0, true, 61, 8, [[.str ⟨#[]⟩, .int .i64 0, .int .i64 0, .int .i64 0, .nils, .int .i64 0, .bool false, .bool false]]⟩, bTy t]) a [c] (ha.app _) (by simp) fun x hx => by
    obtain rfl : x = c := by simpa using hx
    exact f220 t hl x hc hg _ _ (.mk (by simp)))
  simp only [List.any_cons, List.any_nil, Bool.or_false, hok, Bool.not_true, bTy, rTy, bBase] at h219
  simp only [eBase] at h196
  have hnr : noRef0 (eFds t.fields) = true := rfl
  simp only [c199, eBase, h196, haty, rTy, h219, scal_ptr, hat, hnr, evX, Int.reduceEq, Int.reduceLT, Int.reduceLE, Nat.reduceMul, Nat.reduceMod, evW, fn_eq, evR, Nat.reduceAdd, Nat.reduceLT, Nat.reduceLeDiff, reduceIte, Nat.reduceEqDiff, reduceCtorEq, argEnv, eq_self, if_true, if_false]
set_option maxHeartbeats 4000000 in
theorem f182 (b : Base) (hb : b.Ok) (hv : validB b = true) (k : Nat) (t : Ty) (ht : b.types[k]? = some t) (hty : tyOk t = true) (c : List (List Tm)) (hc : c.length < 9223372036854775807) (hg : ∀ g ∈ c, g.length < 9223372036854775807) (hok : cndOk t.fields c = true) (d : ByteArray) (hf : fits b.types ⟨(k : Int), d⟩ = true) (H : Heap) :
    cal (evC cprog) false 182 [eBase b, .int .i64 (k : Int), eGrs c, .str d] H = some (bEr (cndHold t.fields c d) 0, H) := by
  rw [cal_of at182]
  have h119 := f119 b hb hv k t ht d
  rw [hf] at h119
  have hl := (hb.type t (List.mem_of_getElem? ht)).fields
  have hcl := (sGrs [] c).len
  simp only [List.length_map] at hcl
  have hsl : SlAt (H ++ [bBase b, bData d, ⟨0, true, 80, 1, [[eGrs c]]⟩]) 1 (.ref (H.length + 2) 0 1 0 1) ([c].map rCn) := .ref (rows := [c].map rCn) (k := ⟨0, true, 80, 1, [[eGrs c]]⟩) (by simp [curBlk]) fun i row hi => by
    refine ⟨?_, by simpa [rCn] using hi⟩
    obtain ⟨y, _, rfl⟩ := List.mem_map.1 (List.mem_of_getElem? hi)
    rfl
  have h199 := f199 b hb hv k t ht c hc hg hok _ rfl _ hsl
  have hall : ∀ g ∈ c, g.all (tmOk t.fields) = true := fun g hg' => by
    simp only [cndOk, Bool.and_eq_true, List.all_eq_true] at hok
    have := hok.2 g hg'
    simp only [grOk, Bool.and_eq_true] at this
    exact this.2
  have h206 := containsFunc_ok (g := 224) at206 (indexFunc_ok (sz := 1) (ag := false) at224 rGr eTms lGr 203 [.ptr (H.length + 4) 0 1 0 0] (grHold t.fields d) (H ++ [bBase b, bData d, ⟨0, true, 80, 1, [[eGrs c]]⟩, bTy t, bFn (H.length + 3) (H.length + 1)]) (eGrs c) c (sGrs _ c) hc fun g hg' => f203 t hl hty g (hg g hg') (hall g hg') d (H.length + 3) (H.length + 1) (H.length + 4) _ (.mk (by simp)) (.mk (by simp)) (.mk (by simp)))
  have hcu : (eGrs c).cells = [eGrs c] := rfl
  have htu : (eGrs c).isTup = false := rfl
  simp only [eBase, bEr, bBase, bData, bTy, bFn, rTy] at h119 h199 h206
  by_cases h0 : (c.length : Int) = 0
  · simp only [c182, eBase, h119, h199, rTy, hcl, hcu, htu, h0, scal_ptr, bEr, evX, Int.reduceEq, Int.reduceLT, Int.reduceLE, Nat.reduceMul, Nat.reduceMod, evW, fn_eq, evR, Nat.reduceAdd, Nat.reduceLT, Nat.reduceLeDiff, reduceIte, Nat.reduceEqDiff, reduceCtorEq, argEnv, eq_self, if_true, if_false]
    simp [cndHold, h0]
  · have e : cndHold t.fields c d = c.any (grHold t.fields d) := by simp only [cndHold, decide_eq_false h0, Bool.false_or]
    rw [e]
    simp only [c182, eBase, h119, h199, rTy, hcl, hcu, htu, h0, h206, scal_ptr, bEr, evX, Int.reduceEq, Int.reduceLT, Int.reduceLE, Nat.reduceMul, Nat.reduceMod, evW, fn_eq, evR, Nat.reduceAdd, Nat.reduceLT, Nat.reduceLeDiff, reduceIte, Nat.reduceEqDiff, reduceCtorEq, argEnv, eq_self, if_true, if_false]
end Go.Proofs.YtbdpceigmnpoaaaGreatDoor.Code

/- call: types, fields and conditions, of the document. -/
set_option linter.unusedSimpArgs false
set_option linter.unusedVariables false
namespace Go.Proofs.YtbdpceigmnpoaaaGreatDoor.Code
open Go.Proofs.YtbdpceigmnpoaaaGreatDoor.Ev

theorem idxOf_nil {α : Type} {p : α → Bool} {l : List α} (h : ∀ (i : Nat) (x : α), l[i]? = some x → (!p x) = true) : idxOf p l = -1 := by
  rcases idxOf_find p l with ⟨h1, _⟩ | ⟨i, x, h1, h2, _, h4⟩
  · exact h1
  · have := h i x h2
    rw [h4] at this
    cases this
theorem idxOf_at {α : Type} {p : α → Bool} : ∀ {l : List α} {i : Nat} {x : α}, l[i]? = some x → p x = true → (∀ (j : Nat) (y : α), j < i → l[j]? = some y → (!p y) = true) → idxOf p l = (i : Int)
  | [], i, x, h, _, _ => by simp at h
  | a :: l, 0, x, h, hp, _ => by
    simp only [List.getElem?_cons_zero, Option.some.injEq] at h
    subst h
    simp [idxOf, List.findIdx?_cons, hp]
  | a :: l, i + 1, x, h, hp, hj => by
    have ha := hj 0 a (by omega) rfl
    have ih := idxOf_at (l := l) (i := i) (by simpa using h) hp fun j y hji hy => hj (j + 1) y (by omega) (by simpa using hy)
    unfold idxOf at ih ⊢
    rw [List.findIdx?_cons]
    have ha' : p a = false := by simpa using ha
    rw [ha']
    cases hf : l.findIdx? p with
    | none => rw [hf] at ih; simp only at ih; omega
    | some m => rw [hf] at ih; simp only at ih; simp; omega
theorem f91n (b : Base) (hb : b.Ok) (hv : validB b = true) (H : Heap) : cal (evC cprog) false 91 [eBase b, .nils] H = some (.int .i64 0, H) := by
  rw [f91 b hb .nils [] (by simp) H (nil_slat H)]
  simp [errB, hv]
theorem f91k (b : Base) (hb : b.Ok) (hv : validB b = true) (k : Nat) (hk : k < b.types.length) (H X : Heap) : cal (evC cprog) false 91 [eBase b, .ref (H.length + X.length) 0 1 0 1] (H ++ (X ++ [⟨0, true, 3, 1, [[.int .i64 (k : Int)]]⟩])) = some (.int .i64 0, H ++ (X ++ [⟨0, true, 3, 1, [[.int .i64 (k : Int)]]⟩])) := by
  rw [f91 b hb _ [(k : Int)] (by simp) _ (one_slat H (k : Int) X), errB_ok hv hk]
theorem f60 (b : Base) (hb : b.Ok) (hv : validB b = true) (n : ByteArray) (H : Heap) : cal (evC cprog) false 60 [eBase b, .str n] H = some (ixE (tyIx b.types n), H) := by
  rw [cal_of at60]
  have h91 := f91n b hb hv
  have hlen := (sTys [] b.types).len
  simp only [List.length_map] at hlen
  simp only [eBase] at h91
  simp only [c60, eBase, h91, evX, Int.reduceEq, Int.reduceLT, Int.reduceLE, Nat.reduceMul, Nat.reduceMod, evW, fn_eq, evR, Nat.reduceAdd, Nat.reduceLT, Nat.reduceLeDiff, reduceIte, Nat.reduceEqDiff, reduceCtorEq, argEnv, eq_self, if_true, if_false]
  generalize hz : itLim _ _ = z
  have L := scan_rule b.types (fun _ t => !decide (t.name = n)) [1, 2, 7] (fun i => [(1, .str n), (2, .ptr H.length 0 4 0 0), (7, .int .i64 (i : Int))]) H [bBase b] (evCode (evC cprog) itLim c60_l0) (fun c T => c = .exit 0) (fun i _ c T => c = .ret ∧ get T 4 = some (.int .i64 (i : Int)) ∧ get T 5 = some (.int .i64 0))
    (fun i t hx E G hE => by
      have hlt : i < b.types.length := (List.getElem?_eq_some_iff.1 hx).1
      have hi : (i : Int) < (b.types.length : Int) := by omega
      have hat := aTy hx
      have hw := wrapS hlt hb.types
      have hkb : ∀ X, (H ++ ([bBase b] ++ X))[H.length]? = some (bBase b) := fun X => by simp
      simp only [bBase] at hkb
      by_cases hn : t.name = n
      · simp only [c60_l0, hE, hi, hkb, bBase, hlen, hat, rTy, hn, evX, Int.reduceEq, Int.reduceLT, Int.reduceLE, Nat.reduceMul, Nat.reduceMod, evW, fn_eq, evR, Nat.reduceAdd, Nat.reduceLT, Nat.reduceLeDiff, reduceIte, Nat.reduceEqDiff, reduceCtorEq, argEnv, eq_self, if_true, if_false]
        exact Sc.ret (by simp [hn]) ⟨rfl, rfl, rfl⟩
      · simp only [c60_l0, hE, hi, hkb, bBase, hlen, hat, rTy, hn, hw, evX, Int.reduceEq, Int.reduceLT, Int.reduceLE, Nat.reduceMul, Nat.reduceMod, evW, fn_eq, evR, Nat.reduceAdd, Nat.reduceLT, Nat.reduceLeDiff, reduceIte, Nat.reduceEqDiff, reduceCtorEq, argEnv, eq_self, if_true, if_false]
        exact Sc.next (by simp [hn]) (by rfl))
    (fun E G hE => by
      have hkb : ∀ X, (H ++ ([bBase b] ++ X))[H.length]? = some (bBase b) := fun X => by simp
      simp only [bBase] at hkb
      simp only [c60_l0, hE, hkb, bBase, hlen, Int.lt_irrefl, evX, Int.reduceEq, Int.reduceLT, Int.reduceLE, Nat.reduceMul, Nat.reduceMod, evW, fn_eq, evR, Nat.reduceAdd, Nat.reduceLT, Nat.reduceLeDiff, reduceIte, Nat.reduceEqDiff, reduceCtorEq, argEnv, eq_self, if_true, if_false]
      exact .exit (K := [bBase b]) rfl) _ [] (by rfl) (by simp [bBase]) z hz
  rcases L with ⟨ha, c, T, G, rfl, _, rfl⟩ | ⟨i, t, hx, ha, hj, c, T, G, rfl, _, rfl, hT4, hT5⟩
  · have e : tyIx b.types n = -1 := idxOf_nil ha
    rw [e]
    simp only [ixE, evX, Int.reduceEq, Int.reduceLT, Int.reduceLE, Nat.reduceMul, Nat.reduceMod, evW, fn_eq, evR, Nat.reduceAdd, Nat.reduceLT, Nat.reduceLeDiff, reduceIte, Nat.reduceEqDiff, reduceCtorEq, argEnv, eq_self, if_true, if_false]
  · have e : tyIx b.types n = (i : Int) := idxOf_at hx (by simpa using ha) hj
    have n0 : ¬ (i : Int) < 0 := by omega
    rw [e]
    simp only [hT4, hT5, ixE, n0, evX, Int.reduceEq, Int.reduceLT, Int.reduceLE, Nat.reduceMul, Nat.reduceMod, evW, fn_eq, evR, Nat.reduceAdd, Nat.reduceLT, Nat.reduceLeDiff, reduceIte, Nat.reduceEqDiff, reduceCtorEq, argEnv, eq_self, if_true, if_false]
theorem f178 (b : Base) (hb : b.Ok) (hv : validB b = true) (k : Nat) (t : Ty) (ht : b.types[k]? = some t) (n : ByteArray) (H : Heap) : cal (evC cprog) false 178 [eBase b, .int .i64 (k : Int), .str n] H = some (ixE (fdIx t.fields n), H) := by
  rw [cal_of at178]
  have h91 := f91k b hb hv k (List.getElem?_eq_some_iff.1 ht).1 H [bBase b]
  have hl := (hb.type t (List.mem_of_getElem? ht)).fields
  have hlen := (sFds [] t.fields).len
  simp only [List.length_map] at hlen
  have hat := aTy ht
  simp only [eBase, bBase, List.length_cons, List.length_nil, Nat.zero_add, List.cons_append, List.nil_append] at h91
  simp only [c178, eBase, h91, evX, Int.reduceEq, Int.reduceLT, Int.reduceLE, Nat.reduceMul, Nat.reduceMod, evW, fn_eq, evR, Nat.reduceAdd, Nat.reduceLT, Nat.reduceLeDiff, reduceIte, Nat.reduceEqDiff, reduceCtorEq, argEnv, eq_self, if_true, if_false]
  generalize hz : itLim _ _ = z
  have L := scan_rule t.fields (fun _ f => !decide (f.name = n)) [1, 2, 3, 9] (fun i => [(1, .int .i64 (k : Int)), (2, .str n), (3, .ptr H.length 0 4 0 0), (9, .int .i64 (i : Int))]) H [bBase b] (evCode (evC cprog) itLim c178_l0) (fun c T => c = .exit 0) (fun i _ c T => c = .ret ∧ get T 6 = some (.int .i64 (i : Int)) ∧ get T 7 = some (.int .i64 0))
    (fun i f hx E G hE => by
      have hlt : i < t.fields.length := (List.getElem?_eq_some_iff.1 hx).1
      have hi : (i : Int) < (t.fields.length : Int) := by omega
      have haf := aFd hx
      have hw := wrapS hlt hl
      have hkb : ∀ X, (H ++ ([bBase b] ++ X))[H.length]? = some (bBase b) := fun X => by simp
      simp only [bBase] at hkb
      by_cases hn : f.name = n
      · simp only [c178_l0, hE, hi, hkb, bBase, hlen, hat, haf, rTy, rFd, hn, evX, Int.reduceEq, Int.reduceLT, Int.reduceLE, Nat.reduceMul, Nat.reduceMod, evW, fn_eq, evR, Nat.reduceAdd, Nat.reduceLT, Nat.reduceLeDiff, reduceIte, Nat.reduceEqDiff, reduceCtorEq, argEnv, eq_self, if_true, if_false]
        exact Sc.ret (by simp [hn]) ⟨rfl, rfl, rfl⟩
      · simp only [c178_l0, hE, hi, hkb, bBase, hlen, hat, haf, rTy, rFd, hn, hw, evX, Int.reduceEq, Int.reduceLT, Int.reduceLE, Nat.reduceMul, Nat.reduceMod, evW, fn_eq, evR, Nat.reduceAdd, Nat.reduceLT, Nat.reduceLeDiff, reduceIte, Nat.reduceEqDiff, reduceCtorEq, argEnv, eq_self, if_true, if_false]
        exact Sc.next (by simp [hn]) (by rfl))
    (fun E G hE => by
      have hkb : ∀ X, (H ++ ([bBase b] ++ X))[H.length]? = some (bBase b) := fun X => by simp
      simp only [bBase] at hkb
      simp only [c178_l0, hE, hkb, bBase, hlen, hat, rTy, Int.lt_irrefl, evX, Int.reduceEq, Int.reduceLT, Int.reduceLE, Nat.reduceMul, Nat.reduceMod, evW, fn_eq, evR, Nat.reduceAdd, Nat.reduceLT, Nat.reduceLeDiff, reduceIte, Nat.reduceEqDiff, reduceCtorEq, argEnv, eq_self, if_true, if_false]
      exact .exit (K := [bBase b]) rfl) _ _ (by rfl) (by simp [bBase]; rfl) z hz
  rcases L with ⟨ha, c, T, G, rfl, _, rfl⟩ | ⟨i, f, hx, ha, hj, c, T, G, rfl, _, rfl, hT6, hT7⟩
  · have e : fdIx t.fields n = -1 := idxOf_nil ha
    rw [e]
    simp only [ixE, evX, Int.reduceEq, Int.reduceLT, Int.reduceLE, Nat.reduceMul, Nat.reduceMod, evW, fn_eq, evR, Nat.reduceAdd, Nat.reduceLT, Nat.reduceLeDiff, reduceIte, Nat.reduceEqDiff, reduceCtorEq, argEnv, eq_self, if_true, if_false]
  · have e : fdIx t.fields n = (i : Int) := idxOf_at hx (by simpa using ha) hj
    have n0 : ¬ (i : Int) < 0 := by omega
    rw [e]
    simp only [hT6, hT7, ixE, n0, evX, Int.reduceEq, Int.reduceLT, Int.reduceLE, Nat.reduceMul, Nat.reduceMod, evW, fn_eq, evR, Nat.reduceAdd, Nat.reduceLT, Nat.reduceLeDiff, reduceIte, Nat.reduceEqDiff, reduceCtorEq, argEnv, eq_self, if_true, if_false]
theorem f134 (b : Base) (hb : b.Ok) (hv : validB b = true) (k : Nat) (hk : k < b.types.length) (H : Heap) : cal (evC cprog) false 134 [eBase b, .int .i64 (k : Int)] H = some (.int .i64 0, H) := by
  rw [cal_of at134]
  have h43 := f43 b hb
  rw [hv] at h43
  have hlen := (sTys [] b.types).len
  simp only [List.length_map] at hlen
  have n0 : ¬ (k : Int) < 0 := by omega
  have n1 : ¬ (b.types.length : Int) ≤ (k : Int) := by omega
  simp only [eBase] at h43
  simp only [c134, eBase, h43, hlen, n0, n1, evX, Int.reduceEq, Int.reduceLT, Int.reduceLE, Nat.reduceMul, Nat.reduceMod, evW, fn_eq, evR, Nat.reduceAdd, Nat.reduceLT, Nat.reduceLeDiff, reduceIte, Nat.reduceEqDiff, reduceCtorEq, argEnv, eq_self, if_true, if_false]
theorem f160 (b : Base) (hb : b.Ok) (hv : validB b = true) (k : Nat) (t : Ty) (ht : b.types[k]? = some t) (x : Tm) (H : Heap) : cal (evC cprog) false 160 [eBase b, .int .i64 (k : Int), .agg (rTm x)] H = some (.bool (tmOk t.fields x), H) := by
  rw [cal_of at160]
  have h178 := f178 b hb hv k t ht x.field
  have hat := aTy ht
  simp only [eBase] at h178
  rcases fdIx_cases t.fields x.field with ⟨h1, h2⟩ | ⟨i, f, h1, h2, h3⟩
  · rw [h1] at h178
    simp only [ixE, show (-1 : Int) < 0 from by decide, if_true] at h178
    simp only [c160, eBase, rTm, h178, evX, Int.reduceEq, Int.reduceLT, Int.reduceLE, Nat.reduceMul, Nat.reduceMod, evW, fn_eq, evR, Nat.reduceAdd, Nat.reduceLT, Nat.reduceLeDiff, reduceIte, Nat.reduceEqDiff, reduceCtorEq, argEnv, eq_self, if_true, if_false]
    simp [tmOk, h2]
  · have n0 : ¬ (i : Int) < 0 := by omega
    rw [h1] at h178
    simp only [ixE, n0, if_false] at h178
    have haf := aFd h2
    have e : tmOk t.fields x = (decide (1 ≤ x.op) && decide (x.op ≤ 6) && decide ((x.value.size : Int) = f.bytes)) := by simp only [tmOk, h3]
    rw [e]
    by_cases n1 : 1 ≤ x.op
    · by_cases n2 : x.op ≤ 6
      · simp only [c160, eBase, rTy, rTm, rFd, h178, hat, haf, n1, n2, evX, Int.reduceEq, Int.reduceLT, Int.reduceLE, Nat.reduceMul, Nat.reduceMod, evW, fn_eq, evR, Nat.reduceAdd, Nat.reduceLT, Nat.reduceLeDiff, reduceIte, Nat.reduceEqDiff, reduceCtorEq, argEnv, eq_self, if_true, if_false]
      · simp only [c160, eBase, rTy, rTm, rFd, h178, hat, haf, n1, n2, evX, Int.reduceEq, Int.reduceLT, Int.reduceLE, Nat.reduceMul, Nat.reduceMod, evW, fn_eq, evR, Nat.reduceAdd, Nat.reduceLT, Nat.reduceLeDiff, reduceIte, Nat.reduceEqDiff, reduceCtorEq, argEnv, eq_self, if_true, if_false]
    · simp only [c160, eBase, rTy, rTm, rFd, h178, hat, haf, n1, evX, Int.reduceEq, Int.reduceLT, Int.reduceLE, Nat.reduceMul, Nat.reduceMod, evW, fn_eq, evR, Nat.reduceAdd, Nat.reduceLT, Nat.reduceLeDiff, reduceIte, Nat.reduceEqDiff, reduceCtorEq, argEnv, eq_self, if_true, if_false]
theorem l135_0 (b : Base) (hb : b.Ok) (hv : validB b = true) (k : Nat) (t : Ty) (ht : b.types[k]? = some t) (c : List (List Tm)) (j : Nat) (g : List Tm) (hj : c[j]? = some g) (hg : g.length < 9223372036854775807) (H : Heap) (b1 : Nat) (h1 : Sits H b1 (bBase b)) (st : St) (G : Heap)
    (hE : keepEnv st.1 [1, 2, 3, 7, 8] = [(1, .int .i64 (k : Int)), (2, eGrs c), (3, .ptr b1 0 4 0 0), (7, .int .i64 (j : Int)), (8, .int .i64 0)]) (hH : st.2 = H ++ ([] ++ G)) (z : Option (CX × St)) (hz : itLim (evCode (evC cprog) itLim c135_l0) st = z) :
    (g.all (tmOk t.fields) = true ∧ Lv H [] (fun c' T => c' = .exit 2 ∧ keepEnv T [1, 2, 3, 7] = [(1, .int .i64 (k : Int)), (2, eGrs c), (3, .ptr b1 0 4 0 0), (7, .int .i64 (j : Int))]) z) ∨ (g.all (tmOk t.fields) = false ∧ Lv H [] (fun c' T => c' = .ret ∧ get T 6 = some (.bool false)) z) := by
  have hag := aGr hj
  have hlen := (sTms [] g).len
  simp only [List.length_map] at hlen
  simp only [Sits, bBase] at h1
  exact all_rule g (tmOk t.fields) [1, 2, 3, 7, 8] (fun i => [(1, .int .i64 (k : Int)), (2, eGrs c), (3, .ptr b1 0 4 0 0), (7, .int .i64 (j : Int)), (8, .int .i64 (i : Int))]) H [] (evCode (evC cprog) itLim c135_l0) _ _
    (fun i x hx E G hE => by
      have hlt : i < g.length := (List.getElem?_eq_some_iff.1 hx).1
      have hi : (i : Int) < (g.length : Int) := by omega
      have hax := aTm hx
      have hw := wrapS hlt hg
      have h160 := f160 b hb hv k t ht x
      simp only [eBase, rTm] at h160
      cases hok : tmOk t.fields x with
      | true =>
        simp only [c135_l0, hE, hi, h1, hag, rGr, hlen, hax, rTm, h160, hok, hw, evX, Int.reduceEq, Int.reduceLT, Int.reduceLE, Nat.reduceMul, Nat.reduceMod, evW, fn_eq, evR, Nat.reduceAdd, Nat.reduceLT, Nat.reduceLeDiff, reduceIte, Nat.reduceEqDiff, reduceCtorEq, argEnv, eq_self, if_true, if_false]
        exact Sc.next rfl (by rfl)
      | false =>
        simp only [c135_l0, hE, hi, h1, hag, rGr, hlen, hax, rTm, h160, hok, evX, Int.reduceEq, Int.reduceLT, Int.reduceLE, Nat.reduceMul, Nat.reduceMod, evW, fn_eq, evR, Nat.reduceAdd, Nat.reduceLT, Nat.reduceLeDiff, reduceIte, Nat.reduceEqDiff, reduceCtorEq, argEnv, eq_self, if_true, if_false]
        exact Sc.ret rfl ⟨rfl, rfl⟩)
    (fun E G hE => by
      simp only [c135_l0, hE, hag, rGr, hlen, Int.lt_irrefl, evX, Int.reduceEq, Int.reduceLT, Int.reduceLE, Nat.reduceMul, Nat.reduceMod, evW, fn_eq, evR, Nat.reduceAdd, Nat.reduceLT, Nat.reduceLeDiff, reduceIte, Nat.reduceEqDiff, reduceCtorEq, argEnv, eq_self, if_true, if_false]
      exact .exit (K := []) ⟨rfl, by rfl⟩) st G hE hH z hz
theorem f135 (b : Base) (hb : b.Ok) (hv : validB b = true) (k : Nat) (t : Ty) (ht : b.types[k]? = some t) (c : List (List Tm)) (hc : c.length < 9223372036854775807) (hg : ∀ g ∈ c, g.length < 9223372036854775807) (H : Heap) :
    cal (evC cprog) false 135 [eBase b, .int .i64 (k : Int), eGrs c] H = some (.bool (cndOk t.fields c), H) := by
  rw [cal_of at135]
  have hlen := (sGrs [] c).len
  simp only [List.length_map] at hlen
  simp only [c135, eBase, evX, Int.reduceEq, Int.reduceLT, Int.reduceLE, Nat.reduceMul, Nat.reduceMod, evW, fn_eq, evR, Nat.reduceAdd, Nat.reduceLT, Nat.reduceLeDiff, reduceIte, Nat.reduceEqDiff, reduceCtorEq, argEnv, eq_self, if_true, if_false]
  generalize hz : itLim _ _ = z
  have key : ∀ (H : Heap) (b1 : Nat), Sits H b1 (bBase b) → ∀ (st : St) (G : Heap), keepEnv st.1 [1, 2, 3, 7] = [(1, .int .i64 (k : Int)), (2, eGrs c), (3, .ptr b1 0 4 0 0), (7, .int .i64 0)] → st.2 = H ++ ([] ++ G) → ∀ z, itLim (evCode (evC cprog) itLim c135_l1) st = z →
      (c.all (grOk t.fields) = true ∧ Lv H [] (fun c' T => c' = .exit 0 ∧ keepEnv T [2] = [(2, eGrs c)]) z) ∨ (c.all (grOk t.fields) = false ∧ Lv H [] (fun c' T => c' = .ret ∧ get T 6 = some (.bool false)) z) := by
    intro H b1 h1 st G hE hH z hz
    have h1' := h1
    simp only [Sits, bBase] at h1'
    exact all_rule c (grOk t.fields) [1, 2, 3, 7] (fun i => [(1, .int .i64 (k : Int)), (2, eGrs c), (3, .ptr b1 0 4 0 0), (7, .int .i64 (i : Int))]) H [] (evCode (evC cprog) itLim c135_l1) _ _
      (fun i g hx E G hE => by
        have hlt : i < c.length := (List.getElem?_eq_some_iff.1 hx).1
        have hi : (i : Int) < (c.length : Int) := by omega
        have hag := aGr hx
        have hw := wrapS hlt hc
        have hgl := (sTms [] g).len
        simp only [List.length_map] at hgl
        by_cases n1 : (g.length : Int) < 1
        · simp only [c135_l1, hE, hi, hlen, hag, rGr, hgl, n1, evX, Int.reduceEq, Int.reduceLT, Int.reduceLE, Nat.reduceMul, Nat.reduceMod, evW, fn_eq, evR, Nat.reduceAdd, Nat.reduceLT, Nat.reduceLeDiff, reduceIte, Nat.reduceEqDiff, reduceCtorEq, argEnv, eq_self, if_true, if_false]
          exact Sc.ret (by simp [grOk]; omega) ⟨rfl, rfl⟩
        by_cases n2 : (4 : Int) < (g.length : Int)
        · simp only [c135_l1, hE, hi, hlen, hag, rGr, hgl, n1, n2, evX, Int.reduceEq, Int.reduceLT, Int.reduceLE, Nat.reduceMul, Nat.reduceMod, evW, fn_eq, evR, Nat.reduceAdd, Nat.reduceLT, Nat.reduceLeDiff, reduceIte, Nat.reduceEqDiff, reduceCtorEq, argEnv, eq_self, if_true, if_false]
          exact Sc.ret (by simp [grOk]; omega) ⟨rfl, rfl⟩
        have e : grOk t.fields g = g.all (tmOk t.fields) := by simp only [grOk, decide_eq_true (show 1 ≤ (g.length : Int) by omega), decide_eq_true (show (g.length : Int) ≤ 4 by omega), Bool.true_and]
        rw [e]
        simp only [c135_l1, hE, hi, hlen, hag, rGr, hgl, n1, n2, evX, Int.reduceEq, Int.reduceLT, Int.reduceLE, Nat.reduceMul, Nat.reduceMod, evW, fn_eq, evR, Nat.reduceAdd, Nat.reduceLT, Nat.reduceLeDiff, reduceIte, Nat.reduceEqDiff, reduceCtorEq, argEnv, eq_self, if_true, if_false]
        generalize hz : itLim _ _ = z
        rcases l135_0 b hb hv k t ht c i g hx (by omega) H b1 h1 _ G (by rfl) (by simp) z hz with ⟨ha, c', T, G', rfl, _, rfl, hT⟩ | ⟨ha, c', T, G', rfl, _, rfl, hT⟩
        · rw [ha]
          simp only [hT, hw, evX, Int.reduceEq, Int.reduceLT, Int.reduceLE, Nat.reduceMul, Nat.reduceMod, evW, fn_eq, evR, Nat.reduceAdd, Nat.reduceLT, Nat.reduceLeDiff, reduceIte, Nat.reduceEqDiff, reduceCtorEq, argEnv, eq_self, if_true, if_false]
          exact Sc.next rfl (by rfl)
        · rw [ha]
          simp only [evX, Int.reduceEq, Int.reduceLT, Int.reduceLE, Nat.reduceMul, Nat.reduceMod, evW, fn_eq, evR, Nat.reduceAdd, Nat.reduceLT, Nat.reduceLeDiff, reduceIte, Nat.reduceEqDiff, reduceCtorEq, argEnv, eq_self, if_true, if_false]
          exact Sc.ret rfl ⟨rfl, hT⟩)
      (fun E G hE => by
        simp only [c135_l1, hE, hlen, Int.lt_irrefl, evX, Int.reduceEq, Int.reduceLT, Int.reduceLE, Nat.reduceMul, Nat.reduceMod, evW, fn_eq, evR, Nat.reduceAdd, Nat.reduceLT, Nat.reduceLeDiff, reduceIte, Nat.reduceEqDiff, reduceCtorEq, argEnv, eq_self, if_true, if_false]
        exact .exit (K := []) ⟨rfl, by rfl⟩) st G hE hH z hz
  rcases key (H ++ [bBase b]) H.length (.mk (by simp)) _ [] (by rfl) (by simp [bBase]) z hz with ⟨ha, c', T, G', rfl, _, rfl, hT⟩ | ⟨ha, c', T, G', rfl, _, rfl, hT⟩
  · by_cases n1 : (c.length : Int) ≤ 4
    · simp only [hT, hlen, n1, evX, Int.reduceEq, Int.reduceLT, Int.reduceLE, Nat.reduceMul, Nat.reduceMod, evW, fn_eq, evR, Nat.reduceAdd, Nat.reduceLT, Nat.reduceLeDiff, reduceIte, Nat.reduceEqDiff, reduceCtorEq, argEnv, eq_self, if_true, if_false]
      simp [cndOk, ha, n1]
    · simp only [hT, hlen, n1, evX, Int.reduceEq, Int.reduceLT, Int.reduceLE, Nat.reduceMul, Nat.reduceMod, evW, fn_eq, evR, Nat.reduceAdd, Nat.reduceLT, Nat.reduceLeDiff, reduceIte, Nat.reduceEqDiff, reduceCtorEq, argEnv, eq_self, if_true, if_false]
      simp [cndOk]; omega
  · simp only [hT, evX, Int.reduceEq, Int.reduceLT, Int.reduceLE, Nat.reduceMul, Nat.reduceMod, evW, fn_eq, evR, Nat.reduceAdd, Nat.reduceLT, Nat.reduceLeDiff, reduceIte, Nat.reduceEqDiff, reduceCtorEq, argEnv, eq_self, if_true, if_false]
    simp [cndOk, ha]
theorem f104 (b : Base) (hb : b.Ok) (hv : validB b = true) (k : Nat) (t : Ty) (ht : b.types[k]? = some t) (c : List (List Tm)) (hc : c.length < 9223372036854775807) (hg : ∀ g ∈ c, g.length < 9223372036854775807) (H : Heap) :
    cal (evC cprog) false 104 [eBase b, .int .i64 (k : Int), eGrs c] H = some (bEr (cndOk t.fields c) 0, H) := by
  rw [cal_of at104]
  have h134 := f134 b hb hv k (List.getElem?_eq_some_iff.1 ht).1
  have h135 := f135 b hb hv k t ht c hc hg
  simp only [eBase] at h134 h135
  simp only [c104, eBase, h134, h135, bEr, evX, Int.reduceEq, Int.reduceLT, Int.reduceLE, Nat.reduceMul, Nat.reduceMod, evW, fn_eq, evR, Nat.reduceAdd, Nat.reduceLT, Nat.reduceLeDiff, reduceIte, Nat.reduceEqDiff, reduceCtorEq, argEnv, eq_self, if_true, if_false]
theorem f103 (b : Base) (hb : b.Ok) (hv : validB b = true) (a k : Nat) (ha : a < b.types.length) (hk : k < b.types.length) (H : Heap) : cal (evC cprog) false 103 [eBase b, .int .i64 (a : Int), .int .i64 (k : Int)] H = some (bEr (isAb b.types (a : Int) (k : Int)) 0, H) := by
  rw [cal_of at103]
  have h91 := f91 b hb (.ref (H.length + 1) 0 1 0 2) [(a : Int), (k : Int)] (by simp) _ (two_slat H a k [bBase b])
  have he : errB b [(a : Int), (k : Int)] = 0 := by
    have h1 : tyOut b.types (a : Int) = false := by simp [tyOut]; omega
    have h2 : tyOut b.types (k : Int) = false := by simp [tyOut]; omega
    unfold errB
    rw [if_pos hv, if_neg (by simp [h1, h2])]
  rw [he] at h91
  have h79 := f79 b b.types.length (tys_good (valid_tys hv)) (Nat.le_refl _) (a : Int) k hk
  simp only [eBase, bBase, List.length_cons, List.length_nil, Nat.zero_add, List.cons_append, List.nil_append] at h91 h79
  have e : isAb b.types (a : Int) (k : Int) = decide ((a : Int) ∈ (anc b.types k).dropLast) := by
    have hd := last_anc b.types k
    have hnd := nodup_anc b.types k k (Nat.le_refl _)
    rw [← hd, List.nodup_append] at hnd
    have hne : (k : Int) ∉ (anc b.types k).dropLast := fun h => hnd.2.2 _ h _ (by simp) rfl
    have hm := mem_anc b.types k (a : Int)
    have hany : ((anc b.types k).any fun x => decide ((a : Int) = x)) = decide ((a : Int) ∈ anc b.types k) := by
      rw [Bool.eq_iff_iff, List.any_eq_true, decide_eq_true_eq]
      exact ⟨fun ⟨x, hx, hax⟩ => by rw [of_decide_eq_true hax]; exact hx, fun h => ⟨_, h, by simp⟩⟩
    unfold isAb
    rw [Int.toNat_natCast, hany, Bool.eq_iff_iff]
    simp only [Bool.and_eq_true, decide_eq_true_eq]
    constructor
    · rintro ⟨h1, h2⟩
      rcases hm.1 h2 with h | h
      · exact h
      · exact absurd h h1
    · intro h
      exact ⟨fun e => hne (by rw [← e]; exact h), hm.2 (.inl h)⟩
  rw [e]
  simp only [c103, eBase, h91, h79, bEr, evX, Int.reduceEq, Int.reduceLT, Int.reduceLE, Nat.reduceMul, Nat.reduceMod, evW, fn_eq, evR, Nat.reduceAdd, Nat.reduceLT, Nat.reduceLeDiff, reduceIte, Nat.reduceEqDiff, reduceCtorEq, argEnv, eq_self, if_true, if_false]
end Go.Proofs.YtbdpceigmnpoaaaGreatDoor.Code

/- call: whether conditions hold, of the document. -/
set_option linter.unusedSimpArgs false
set_option linter.unusedVariables false
namespace Go.Proofs.YtbdpceigmnpoaaaGreatDoor.Code
open Go.Proofs.YtbdpceigmnpoaaaGreatDoor.Ev

end Go.Proofs.YtbdpceigmnpoaaaGreatDoor.Code

/- call: codes, of the program and of the document. -/
set_option linter.unusedSimpArgs false
set_option linter.unusedVariables false
namespace Go.Proofs.YtbdpceigmnpoaaaGreatDoor.Code
open Go.Proofs.YtbdpceigmnpoaaaGreatDoor.Ev

theorem drop_at {α : Type} {l : List α} {i : Nat} {x : α} (h : l[i]? = some x) : l.drop i = x :: l.drop (i + 1) := by
  obtain ⟨hi, he⟩ := List.getElem?_eq_some_iff.1 h
  rw [List.drop_eq_getElem_cons hi, he]
def dlp : ByteArray := ⟨#[68, 76, 80]⟩
def letC (j : Nat) : UInt8 := if j = 0 then 68 else if j = 1 then 76 else 80
theorem letAt_cases (c : UInt8) : (c = 68 ∧ letAt c = 0) ∨ (c = 76 ∧ letAt c = 1) ∨ (c = 80 ∧ letAt c = 2) ∨ (c ≠ 68 ∧ c ≠ 76 ∧ c ≠ 80 ∧ letAt c = 3) := by
  by_cases h1 : c = 68
  · exact .inl ⟨h1, by rw [h1]; rfl⟩
  by_cases h2 : c = 76
  · exact .inr (.inl ⟨h2, by rw [h2]; rfl⟩)
  by_cases h3 : c = 80
  · exact .inr (.inr (.inl ⟨h3, by rw [h3]; rfl⟩))
  · exact .inr (.inr (.inr ⟨h1, h2, h3, by simp [letAt, h1, h2, h3]⟩))
theorem letC_eq {j : Nat} (hj : j < 3) (c : UInt8) : ((letC j).toNat : Int) = (c.toNat : Int) ↔ letAt c = j := by
  have e : ((letC j).toNat : Int) = (c.toNat : Int) ↔ letC j = c := ⟨fun h => UInt8.toNat_inj.1 (by omega), fun h => by rw [h]⟩
  rw [e]
  have : j = 0 ∨ j = 1 ∨ j = 2 := by omega
  rcases this with rfl | rfl | rfl <;> rcases letAt_cases c with ⟨h1, h2⟩ | ⟨h1, h2⟩ | ⟨h1, h2⟩ | ⟨g1, g2, g3, h2⟩ <;> rw [h2] <;> first | (subst h1; decide) | (simp only [letC]; constructor <;> intro h <;> first | (exact absurd h.symm g1) | (exact absurd h.symm g2) | (exact absurd h.symm g3) | omega)
theorem dlp_idx {j : Nat} (hj : j < 3) : idxK (some (.str dlp)) (some (.int .i64 (j : Int))) = some (.int .u8 ((letC j).toNat : Int)) := by
  refine idx_at _ ?_
  have : j = 0 ∨ j = 1 ∨ j = 2 := by omega
  rcases this with rfl | rfl | rfl <;> rfl
theorem dlp_slc {k : Nat} (hk : k ≤ 3) : evSlcs dlp (some k) none = some (.str ⟨(([68, 76, 80] : List UInt8).drop k).toArray⟩) := by
  have : k = 0 ∨ k = 1 ∨ k = 2 ∨ k = 3 := by omega
  rcases this with rfl | rfl | rfl | rfl <;> rfl
theorem dlp_ix {k : Nat} (hk : k ≤ 3) (c : UInt8) : Lib.indexByte (([68, 76, 80] : List UInt8).drop k) c = if letAt c < 3 ∧ k ≤ letAt c then ((letAt c - k : Nat) : Int) else -1 := by
  have : k = 0 ∨ k = 1 ∨ k = 2 ∨ k = 3 := by omega
  rcases this with rfl | rfl | rfl | rfl <;> rcases letAt_cases c with ⟨h1, h2⟩ | ⟨h1, h2⟩ | ⟨h1, h2⟩ | ⟨g1, g2, g3, h2⟩ <;> rw [h2] <;> first | (subst h1; decide) | (simp [Lib.indexByte, Ne.symm g1, Ne.symm g2, Ne.symm g3])
theorem cdOk_cons (k : Nat) (c : UInt8) (l : List UInt8) : cdOk k (c :: l) = (decide (letAt c < 3 ∧ k ≤ letAt c) && cdOk (letAt c + 1) l) := by
  simp only [cdOk, Bool.decide_and]
theorem f142 (s : ByteArray) (c : UInt8) (H : Heap) : cal (evC cprog) false 142 [.str s, .int .u8 (c.toNat : Int)] H = some (.int .i64 (Lib.indexByte s.data.toList c), H) := by
  rw [cal_of at142, show c142 = ⟨0, [.t 0], .user pIdx, false, false⟩ from rfl, fn_use]
  have e : ((c.toNat : Int)).toNat.toUInt8 = c := by rw [Int.toNat_natCast]; exact UInt8.ofNat_toNat
  simp only [pIdx, e]
  simp only [evX, Int.reduceEq, Int.reduceLT, Int.reduceLE, Nat.reduceMul, Nat.reduceMod, evW, fn_eq, evR, Nat.reduceAdd, Nat.reduceLT, Nat.reduceLeDiff, reduceIte, Nat.reduceEqDiff, reduceCtorEq, argEnv, eq_self, if_true, if_false]
theorem ix_any (c : UInt8) : ∀ l : List UInt8, decide (0 ≤ Lib.indexByte l c) = l.any fun x => decide (x = c)
  | [] => rfl
  | b :: l => by
    have ih := ix_any c l
    have hg := Lib.indexByte_ge l c
    rw [List.any_cons, ← ih, Lib.indexByte]
    by_cases hb : b = c
    · subst hb; simp
    · have hb' : (b == c) = false := by simpa using hb
      rw [hb', decide_eq_false hb, Bool.false_or]
      simp only [Bool.false_eq_true, if_false]
      by_cases h1 : Lib.indexByte l c = -1
      · simp [h1]
      · have : (Lib.indexByte l c == -1) = false := by simpa using h1
        rw [this]
        simp only [Bool.false_eq_true, if_false]
        rw [decide_eq_true (show 0 ≤ Lib.indexByte l c + 1 by omega), decide_eq_true (show 0 ≤ Lib.indexByte l c by omega)]
theorem f111 (a : Ar) (c : UInt8) (H : Heap) : cal (evC cprog) false 111 [.agg (rAr a), .int .u8 (c.toNat : Int)] H = some (.bool (hasC a c), H) := by
  rw [cal_of at111]
  have h142 := f142 a.codes c
  have e := ix_any c a.codes.data.toList
  simp only [c111, rAr, h142, e, evX, Int.reduceEq, Int.reduceLT, Int.reduceLE, Nat.reduceMul, Nat.reduceMod, evW, fn_eq, evR, Nat.reduceAdd, Nat.reduceLT, Nat.reduceLeDiff, reduceIte, Nat.reduceEqDiff, reduceCtorEq, argEnv, eq_self, if_true, if_false]
  rfl
theorem f171 (s : ByteArray) (hs : s.size < 9223372036854775807) (H : Heap) : cal (evC cprog) false 171 [.str s] H = some (.bool (cdOk 0 s.data.toList), H) := by
  rw [cal_of at171]
  have hsz := size_eq s
  simp only [c171, evX, Int.reduceEq, Int.reduceLT, Int.reduceLE, Nat.reduceMul, Nat.reduceMod, evW, fn_eq, evR, Nat.reduceAdd, Nat.reduceLT, Nat.reduceLeDiff, reduceIte, Nat.reduceEqDiff, reduceCtorEq, argEnv, eq_self, if_true, if_false]
  generalize hz : itLim _ _ = z
  have L := loop_rule (σ := Nat × Nat) (m := [0, 3, 7, 8]) (env := fun q => [(0, .str s), (3, .int .i64 (q.2 : Int)), (7, .int .i64 (s.size : Int)), (8, .int .i64 (q.1 : Int))]) (hp := fun _ => H)
    (P := fun _ r => r.2.2 = H ∧ ((r.1 = .exit 0 ∧ cdOk 0 s.data.toList = true) ∨ (r.1 = .ret ∧ get r.2.1 2 = some (.bool false) ∧ cdOk 0 s.data.toList = false)))
    (mu := fun q => s.size - q.1) (I := fun q => q.1 ≤ s.size ∧ q.2 ≤ 3 ∧ cdOk 0 s.data.toList = cdOk q.2 (s.data.toList.drop q.1)) (evCode (evC cprog) itLim c171_l0) ?_ (0, 0) _ ⟨Nat.zero_le _, Nat.zero_le _, by rw [List.drop_zero]⟩ (by rfl) rfl z hz
  · obtain ⟨⟨e, T, H'⟩, rfl, hH, hP⟩ := L
    simp only at hH hP
    subst hH
    rcases hP with ⟨rfl, h⟩ | ⟨rfl, hT, h⟩
    · rw [h]
      simp only [evX, Int.reduceEq, Int.reduceLT, Int.reduceLE, Nat.reduceMul, Nat.reduceMod, evW, fn_eq, evR, Nat.reduceAdd, Nat.reduceLT, Nat.reduceLeDiff, reduceIte, Nat.reduceEqDiff, reduceCtorEq, argEnv, eq_self, if_true, if_false]
    · rw [h]
      simp only [hT, evX, Int.reduceEq, Int.reduceLT, Int.reduceLE, Nat.reduceMul, Nat.reduceMod, evW, fn_eq, evR, Nat.reduceAdd, Nat.reduceLT, Nat.reduceLeDiff, reduceIte, Nat.reduceEqDiff, reduceCtorEq, argEnv, eq_self, if_true, if_false]
  · rintro ⟨i, k⟩ ⟨hi, hk, hI⟩ E hE
    simp only at hi hk hI hE
    by_cases hlt : i < s.size
    · obtain ⟨c, hc⟩ : ∃ c, s.data.toList[i]? = some c := ⟨_, List.getElem?_eq_getElem (by omega)⟩
      have hil : (i : Int) < (s.size : Int) := by omega
      have hw := wrapS hlt hs
      have hix := idx_at s hc
      have hsl := dlp_slc hk
      have h142 := f142 ⟨(([68, 76, 80] : List UInt8).drop k).toArray⟩ c
      have hdx := dlp_ix hk c
      rw [show (⟨(([68, 76, 80] : List UInt8).drop k).toArray⟩ : ByteArray).data.toList = ([68, 76, 80] : List UInt8).drop k from rfl, hdx] at h142
      have hdr := drop_at hc
      rw [hdr, cdOk_cons] at hI
      simp only [dlp] at hsl
      by_cases hl : letAt c < 3 ∧ k ≤ letAt c
      · rw [if_pos hl] at h142
        rw [decide_eq_true hl, Bool.true_and] at hI
        have n0 : ¬ ((letAt c - k : Nat) : Int) < 0 := by omega
        have hw2 : IntKind.i64.wrap ((k : Int) + IntKind.i64.wrap (((letAt c - k : Nat) : Int) + 1)) = ((letAt c + 1 : Nat) : Int) := by
          rw [wrap_i64 (n := ((letAt c - k : Nat) : Int) + 1) (by omega) (by omega), wrap_i64 (by omega) (by omega)]; omega
        simp only [c171_l0, hE, hil, p_slcs, slcsK_some, asNat_cast, hsl, hix, h142, n0, hw2, hw, evX, Int.reduceEq, Int.reduceLT, Int.reduceLE, Nat.reduceMul, Nat.reduceMod, evW, fn_eq, evR, Nat.reduceAdd, Nat.reduceLT, Nat.reduceLeDiff, reduceIte, Nat.reduceEqDiff, reduceCtorEq, argEnv, eq_self, if_true, if_false]
        exact q_next (i + 1, letAt c + 1) (by rfl) rfl ⟨hlt, by simp only; omega, hI⟩ (by simp only; omega) fun r h => h
      · rw [if_neg hl] at h142
        rw [decide_eq_false hl, Bool.false_and] at hI
        simp only [c171_l0, hE, hil, p_slcs, slcsK_some, asNat_cast, hsl, hix, h142, evX, Int.reduceEq, Int.reduceLT, Int.reduceLE, Nat.reduceMul, Nat.reduceMod, evW, fn_eq, evR, Nat.reduceAdd, Nat.reduceLT, Nat.reduceLeDiff, reduceIte, Nat.reduceEqDiff, reduceCtorEq, argEnv, eq_self, if_true, if_false]
        exact q_ret ⟨rfl, .inr ⟨rfl, rfl, hI⟩⟩
    · have hil : ¬ (i : Int) < (s.size : Int) := by omega
      rw [List.drop_eq_nil_of_le (by omega)] at hI
      simp only [c171_l0, hE, hil, evX, Int.reduceEq, Int.reduceLT, Int.reduceLE, Nat.reduceMul, Nat.reduceMod, evW, fn_eq, evR, Nat.reduceAdd, Nat.reduceLT, Nat.reduceLeDiff, reduceIte, Nat.reduceEqDiff, reduceCtorEq, argEnv, eq_self, if_true, if_false]
      exact q_exit ⟨rfl, .inl ⟨rfl, hI⟩⟩
/-- the first letter from a place on that is c, or 3 -/
def nxt (c : UInt8) (k : Nat) : Nat := if letAt c < 3 ∧ k ≤ letAt c then letAt c else 3
theorem l102_0 (s : ByteArray) (i : Nat) (c : UInt8) (hc : s.data.toList[i]? = some c) (k : Nat) (hk : k ≤ 3) (H : Heap) (st : St) (hE : keepEnv st.1 [0, 3, 4] = [(0, .str s), (3, .int .i64 (k : Int)), (4, .int .i64 (i : Int))]) (hH : st.2 = H)
    (z : Option (CX × St)) (hz : itLim (evCode (evC cprog) itLim c102_l0) st = z) : ∃ T, z = some (.exit 2, T, H) ∧ keepEnv T [0, 3, 4] = [(0, .str s), (3, .int .i64 (nxt c k : Int)), (4, .int .i64 (i : Int))] := by
  have hix := idx_at s hc
  have L := loop_rule (σ := Nat) (m := [0, 3, 4]) (env := fun j => [(0, .str s), (3, .int .i64 (j : Int)), (4, .int .i64 (i : Int))]) (hp := fun _ => H)
    (P := fun _ r => ∃ T, r = (.exit 2, T, H) ∧ keepEnv T [0, 3, 4] = [(0, .str s), (3, .int .i64 (nxt c k : Int)), (4, .int .i64 (i : Int))])
    (mu := fun j => 3 - j) (I := fun j => k ≤ j ∧ j ≤ 3 ∧ (k ≤ letAt c → j ≤ letAt c)) (evCode (evC cprog) itLim c102_l0) ?_ k st ⟨Nat.le_refl _, hk, fun h => h⟩ hE hH z hz
  · obtain ⟨_, rfl, T, rfl, hT⟩ := L
    exact ⟨T, rfl, hT⟩
  · rintro j ⟨j1, j2, j3⟩ E hE
    have hl3 : letAt c ≤ 3 := by rcases letAt_cases c with ⟨_, h⟩ | ⟨_, h⟩ | ⟨_, h⟩ | ⟨_, _, _, h⟩ <;> omega
    by_cases hj : j < 3
    · have hj' : (j : Int) < 3 := by omega
      have hdi := dlp_idx hj
      have hq := letC_eq hj c
      simp only [dlp] at hdi
      by_cases he : letAt c = j
      · have he' := hq.2 he
        have e : nxt c k = j := by unfold nxt; rw [if_pos ⟨by omega, by omega⟩]; exact he
        simp only [c102_l0, hE, hj', hdi, hix, he', evX, Int.reduceEq, Int.reduceLT, Int.reduceLE, Nat.reduceMul, Nat.reduceMod, evW, fn_eq, evR, Nat.reduceAdd, Nat.reduceLT, Nat.reduceLeDiff, reduceIte, Nat.reduceEqDiff, reduceCtorEq, argEnv, eq_self, if_true, if_false]
        exact q_exit ⟨_, rfl, by rw [e]; rfl⟩
      · have he' : ¬ ((letC j).toNat : Int) = (c.toNat : Int) := fun h => he (hq.1 h)
        have hw := wrapS (i := j) (n := 4) (by omega) (by omega)
        simp only [c102_l0, hE, hj', hdi, hix, he', hw, evX, Int.reduceEq, Int.reduceLT, Int.reduceLE, Nat.reduceMul, Nat.reduceMod, evW, fn_eq, evR, Nat.reduceAdd, Nat.reduceLT, Nat.reduceLeDiff, reduceIte, Nat.reduceEqDiff, reduceCtorEq, argEnv, eq_self, if_true, if_false]
        exact q_next (j + 1) (by rfl) rfl ⟨by omega, by omega, fun h => by have := j3 h; omega⟩ (by omega) fun r h => h
    · have hj' : ¬ (j : Int) < 3 := by omega
      have e : nxt c k = j := by
        unfold nxt
        by_cases h : letAt c < 3 ∧ k ≤ letAt c
        · have := j3 h.2; omega
        · rw [if_neg h]; omega
      simp only [c102_l0, hE, hj', evX, Int.reduceEq, Int.reduceLT, Int.reduceLE, Nat.reduceMul, Nat.reduceMod, evW, fn_eq, evR, Nat.reduceAdd, Nat.reduceLT, Nat.reduceLeDiff, reduceIte, Nat.reduceEqDiff, reduceCtorEq, argEnv, eq_self, if_true, if_false]
      exact q_exit ⟨_, rfl, by rw [e]; rfl⟩
theorem f102 (s : ByteArray) (hs : s.size < 9223372036854775807) (H : Heap) : cal (evC cprog) false 102 [.str s] H = some (.bool (cdOk 0 s.data.toList), H) := by
  rw [cal_of at102]
  have hsz := size_eq s
  simp only [c102, evX, Int.reduceEq, Int.reduceLT, Int.reduceLE, Nat.reduceMul, Nat.reduceMod, evW, fn_eq, evR, Nat.reduceAdd, Nat.reduceLT, Nat.reduceLeDiff, reduceIte, Nat.reduceEqDiff, reduceCtorEq, argEnv, eq_self, if_true, if_false]
  generalize hz : itLim _ _ = z
  have L := loop_rule (σ := Nat × Nat) (m := [0, 3, 4]) (env := fun q => [(0, .str s), (3, .int .i64 (q.2 : Int)), (4, .int .i64 (q.1 : Int))]) (hp := fun _ => H)
    (P := fun _ r => r.2.2 = H ∧ ((r.1 = .exit 0 ∧ cdOk 0 s.data.toList = true) ∨ (r.1 = .ret ∧ get r.2.1 2 = some (.bool false) ∧ cdOk 0 s.data.toList = false)))
    (mu := fun q => s.size - q.1) (I := fun q => q.1 ≤ s.size ∧ q.2 ≤ 3 ∧ cdOk 0 s.data.toList = cdOk q.2 (s.data.toList.drop q.1)) (evCode (evC cprog) itLim c102_l1) ?_ (0, 0) _ ⟨Nat.zero_le _, Nat.zero_le _, by rw [List.drop_zero]⟩ (by rfl) rfl z hz
  · obtain ⟨⟨e, T, H'⟩, rfl, hH, hP⟩ := L
    simp only at hH hP
    subst hH
    rcases hP with ⟨rfl, h⟩ | ⟨rfl, hT, h⟩
    · rw [h]
      simp only [evX, Int.reduceEq, Int.reduceLT, Int.reduceLE, Nat.reduceMul, Nat.reduceMod, evW, fn_eq, evR, Nat.reduceAdd, Nat.reduceLT, Nat.reduceLeDiff, reduceIte, Nat.reduceEqDiff, reduceCtorEq, argEnv, eq_self, if_true, if_false]
    · rw [h]
      simp only [hT, evX, Int.reduceEq, Int.reduceLT, Int.reduceLE, Nat.reduceMul, Nat.reduceMod, evW, fn_eq, evR, Nat.reduceAdd, Nat.reduceLT, Nat.reduceLeDiff, reduceIte, Nat.reduceEqDiff, reduceCtorEq, argEnv, eq_self, if_true, if_false]
  · rintro ⟨i, k⟩ ⟨hi, hk, hI⟩ E hE
    simp only at hi hk hI hE
    by_cases hlt : i < s.size
    · obtain ⟨c, hc⟩ : ∃ c, s.data.toList[i]? = some c := ⟨_, List.getElem?_eq_getElem (by omega)⟩
      have hil : (i : Int) < (s.size : Int) := by omega
      have hw := wrapS hlt hs
      have hdr := drop_at hc
      rw [hdr, cdOk_cons] at hI
      simp only [c102_l1, hE, hil, evX, Int.reduceEq, Int.reduceLT, Int.reduceLE, Nat.reduceMul, Nat.reduceMod, evW, fn_eq, evR, Nat.reduceAdd, Nat.reduceLT, Nat.reduceLeDiff, reduceIte, Nat.reduceEqDiff, reduceCtorEq, argEnv, eq_self, if_true, if_false]
      generalize hz : itLim _ _ = z
      obtain ⟨T, rfl, hT⟩ := l102_0 s i c hc k hk H _ (by rfl) rfl z hz
      by_cases hl : letAt c < 3 ∧ k ≤ letAt c
      · have e : nxt c k = letAt c := if_pos hl
        rw [e] at hT
        rw [decide_eq_true hl, Bool.true_and] at hI
        have n0 : ¬ (letAt c : Int) = 3 := by omega
        have hw2 := wrapS (i := letAt c) (n := 4) (by omega) (by omega)
        simp only [hT, n0, hw2, hw, evX, Int.reduceEq, Int.reduceLT, Int.reduceLE, Nat.reduceMul, Nat.reduceMod, evW, fn_eq, evR, Nat.reduceAdd, Nat.reduceLT, Nat.reduceLeDiff, reduceIte, Nat.reduceEqDiff, reduceCtorEq, argEnv, eq_self, if_true, if_false]
        exact q_next (i + 1, letAt c + 1) (by rfl) rfl ⟨hlt, by simp only; omega, hI⟩ (by simp only; omega) fun r h => h
      · have e : nxt c k = 3 := if_neg hl
        rw [e] at hT
        rw [decide_eq_false hl, Bool.false_and] at hI
        have n0 : ((3 : Nat) : Int) = 3 := rfl
        rw [n0] at hT
        simp only [hT, evX, Int.reduceEq, Int.reduceLT, Int.reduceLE, Nat.reduceMul, Nat.reduceMod, evW, fn_eq, evR, Nat.reduceAdd, Nat.reduceLT, Nat.reduceLeDiff, reduceIte, Nat.reduceEqDiff, reduceCtorEq, argEnv, eq_self, if_true, if_false]
        exact q_ret ⟨rfl, .inr ⟨rfl, rfl, hI⟩⟩
    · have hil : ¬ (i : Int) < (s.size : Int) := by omega
      rw [List.drop_eq_nil_of_le (by omega)] at hI
      simp only [c102_l1, hE, hil, evX, Int.reduceEq, Int.reduceLT, Int.reduceLE, Nat.reduceMul, Nat.reduceMod, evW, fn_eq, evR, Nat.reduceAdd, Nat.reduceLT, Nat.reduceLeDiff, reduceIte, Nat.reduceEqDiff, reduceCtorEq, argEnv, eq_self, if_true, if_false]
      exact q_exit ⟨rfl, .inl ⟨rfl, hI⟩⟩
end Go.Proofs.YtbdpceigmnpoaaaGreatDoor.Code

/- call: the status of arguments, and their types, of the program and of the document. -/
set_option linter.unusedSimpArgs false
set_option linter.unusedVariables false
namespace Go.Proofs.YtbdpceigmnpoaaaGreatDoor.Code
open Go.Proofs.YtbdpceigmnpoaaaGreatDoor.Ev

theorem fdsOf_at {ts : List Ty} {k : Nat} {t : Ty} (h : ts[k]? = some t) : fdsOf ts (k : Int) = t.fields := by rw [fdsOf, tyOf_at h]
def abOk (ts : List Ty) (ab : Int) : Prop := ab = -1 ∨ ∃ k : Nat, ab = (k : Int) ∧ k < ts.length
theorem abOk_tyIx (ts : List Ty) (n : ByteArray) : abOk ts (tyIx ts n) := by
  rcases tyIx_cases ts n with h | ⟨k, t, h1, _, h3, _⟩
  · exact .inl h
  · exact .inr ⟨k, h1, h3⟩
theorem f153 (b : Base) (hb : b.Ok) (hv : validB b = true) (ab : Int) (hab : abOk b.types ab) (a : Ar) (ha : a.Ok) (H : Heap) :
    cal (evC cprog) false 153 [eBase b, .int .i64 ab, .agg (rAr a)] H = some (.tup [.str (stat b.types ab a), .int .i64 (if stat b.types ab a = sWell then tyIx b.types a.seg else 0)], H) := by
  rw [cal_of at153]
  have h171 := f171 a.codes ha.codes
  have h172 := f172 b hb hv a.seg
  cases hc : cdOk 0 a.codes.data.toList with
  | false =>
    have e : stat b.types ab a = sAJ := by simp [stat, codesOk, hc]
    rw [e, if_neg (by decide)]
    simp only [c153, eBase, rAr, h171, hc, evX, Int.reduceEq, Int.reduceLT, Int.reduceLE, Nat.reduceMul, Nat.reduceMod, evW, fn_eq, evR, Nat.reduceAdd, Nat.reduceLT, Nat.reduceLeDiff, reduceIte, Nat.reduceEqDiff, reduceCtorEq, argEnv, eq_self, if_true, if_false]
    rfl
  | true =>
    simp only [eBase] at h172
    rcases tyIx_cases b.types a.seg with h1 | ⟨k, t, h1, h2, h3, _⟩
    · have e : stat b.types ab a = sAC := by simp [stat, codesOk, hc, h1]
      rw [e, if_neg (by decide)]
      rw [h1] at h172
      simp only [ixE, show (-1 : Int) < 0 from by decide, if_true] at h172
      simp only [c153, eBase, rAr, h171, hc, h172, evX, Int.reduceEq, Int.reduceLT, Int.reduceLE, Nat.reduceMul, Nat.reduceMod, evW, fn_eq, evR, Nat.reduceAdd, Nat.reduceLT, Nat.reduceLeDiff, reduceIte, Nat.reduceEqDiff, reduceCtorEq, argEnv, eq_self, if_true, if_false]
      rfl
    · have n0 : ¬ (k : Int) < 0 := by omega
      rw [h1] at h172
      simp only [ixE, n0, if_false] at h172
      have h174 := f174 b hb hv k t h2 a.whn ha.whn ha.gr
      have ef := fdsOf_at h2
      have e0 : stat b.types ab a = if 0 ≤ ab ∧ isAb b.types ab (k : Int) = false then sAC else if cndOk t.fields a.whn = true then sWell else sAK := by
        unfold stat
        rw [if_pos (show codesOk a = true from hc), h1, if_neg n0, ef]
      rw [e0, h1]
      rcases hab with rfl | ⟨m, rfl, hm⟩
      · have n1 : ¬ (0 : Int) ≤ -1 := by decide
        rw [if_neg (fun h => n1 h.1)]
        cases hw : cndOk t.fields a.whn with
        | true =>
          rw [hw] at h174
          simp only [eBase, bEr] at h174
          rw [if_pos rfl, if_pos rfl]
          simp only [c153, eBase, rAr, h171, hc, h172, h174, n1, evX, Int.reduceEq, Int.reduceLT, Int.reduceLE, Nat.reduceMul, Nat.reduceMod, evW, fn_eq, evR, Nat.reduceAdd, Nat.reduceLT, Nat.reduceLeDiff, reduceIte, Nat.reduceEqDiff, reduceCtorEq, argEnv, eq_self, if_true, if_false]
          rfl
        | false =>
          rw [hw] at h174
          simp only [eBase, bEr] at h174
          rw [if_neg (by decide), if_neg (by decide)]
          simp only [c153, eBase, rAr, h171, hc, h172, h174, n1, evX, Int.reduceEq, Int.reduceLT, Int.reduceLE, Nat.reduceMul, Nat.reduceMod, evW, fn_eq, evR, Nat.reduceAdd, Nat.reduceLT, Nat.reduceLeDiff, reduceIte, Nat.reduceEqDiff, reduceCtorEq, argEnv, eq_self, if_true, if_false]
          rfl
      · have n1 : (0 : Int) ≤ (m : Int) := by omega
        have h173 := f173 b hb hv m k hm h3
        cases hi : isAb b.types (m : Int) (k : Int) with
        | false =>
          rw [hi] at h173
          simp only [eBase, bEr] at h173
          rw [if_pos ⟨n1, rfl⟩, if_neg (by decide)]
          simp only [c153, eBase, rAr, h171, hc, h172, h173, n1, evX, Int.reduceEq, Int.reduceLT, Int.reduceLE, Nat.reduceMul, Nat.reduceMod, evW, fn_eq, evR, Nat.reduceAdd, Nat.reduceLT, Nat.reduceLeDiff, reduceIte, Nat.reduceEqDiff, reduceCtorEq, argEnv, eq_self, if_true, if_false]
          rfl
        | true =>
          rw [hi] at h173
          simp only [eBase, bEr] at h173
          rw [if_neg (fun h => by cases h.2)]
          cases hw : cndOk t.fields a.whn with
          | true =>
            rw [hw] at h174
            simp only [eBase, bEr] at h174
            rw [if_pos rfl, if_pos rfl]
            simp only [c153, eBase, rAr, h171, hc, h172, h173, h174, n1, evX, Int.reduceEq, Int.reduceLT, Int.reduceLE, Nat.reduceMul, Nat.reduceMod, evW, fn_eq, evR, Nat.reduceAdd, Nat.reduceLT, Nat.reduceLeDiff, reduceIte, Nat.reduceEqDiff, reduceCtorEq, argEnv, eq_self, if_true, if_false]
            rfl
          | false =>
            rw [hw] at h174
            simp only [eBase, bEr] at h174
            rw [if_neg (by decide), if_neg (by decide)]
            simp only [c153, eBase, rAr, h171, hc, h172, h173, h174, n1, evX, Int.reduceEq, Int.reduceLT, Int.reduceLE, Nat.reduceMul, Nat.reduceMod, evW, fn_eq, evR, Nat.reduceAdd, Nat.reduceLT, Nat.reduceLeDiff, reduceIte, Nat.reduceEqDiff, reduceCtorEq, argEnv, eq_self, if_true, if_false]
            rfl
theorem f59 (b : Base) (hb : b.Ok) (hv : validB b = true) (ab : Int) (hab : abOk b.types ab) (a : Ar) (ha : a.Ok) (H : Heap) :
    cal (evC cprog) false 59 [eBase b, .int .i64 ab, .agg (rAr a)] H = some (.str (stat b.types ab a), H) := by
  rw [cal_of at59]
  have h102 := f102 a.codes ha.codes
  have h60 := f60 b hb hv a.seg
  cases hc : cdOk 0 a.codes.data.toList with
  | false =>
    have e : stat b.types ab a = sAJ := by simp [stat, codesOk, hc]
    rw [e]
    simp only [c59, eBase, rAr, h102, hc, evX, Int.reduceEq, Int.reduceLT, Int.reduceLE, Nat.reduceMul, Nat.reduceMod, evW, fn_eq, evR, Nat.reduceAdd, Nat.reduceLT, Nat.reduceLeDiff, reduceIte, Nat.reduceEqDiff, reduceCtorEq, argEnv, eq_self, if_true, if_false]
    rfl
  | true =>
    simp only [eBase] at h60
    rcases tyIx_cases b.types a.seg with h1 | ⟨k, t, h1, h2, h3, _⟩
    · have e : stat b.types ab a = sAC := by simp [stat, codesOk, hc, h1]
      rw [e]
      rw [h1] at h60
      simp only [ixE, show (-1 : Int) < 0 from by decide, if_true] at h60
      simp only [c59, eBase, rAr, h102, hc, h60, evX, Int.reduceEq, Int.reduceLT, Int.reduceLE, Nat.reduceMul, Nat.reduceMod, evW, fn_eq, evR, Nat.reduceAdd, Nat.reduceLT, Nat.reduceLeDiff, reduceIte, Nat.reduceEqDiff, reduceCtorEq, argEnv, eq_self, if_true, if_false]
      rfl
    · have n0 : ¬ (k : Int) < 0 := by omega
      rw [h1] at h60
      simp only [ixE, n0, if_false] at h60
      have h104 := f104 b hb hv k t h2 a.whn ha.whn ha.gr
      have ef := fdsOf_at h2
      have e0 : stat b.types ab a = if 0 ≤ ab ∧ isAb b.types ab (k : Int) = false then sAC else if cndOk t.fields a.whn = true then sWell else sAK := by
        unfold stat
        rw [if_pos (show codesOk a = true from hc), h1, if_neg n0, ef]
      rw [e0]
      rcases hab with rfl | ⟨m, rfl, hm⟩
      · have n1 : ¬ (0 : Int) ≤ -1 := by decide
        rw [if_neg (fun h => n1 h.1)]
        cases hw : cndOk t.fields a.whn with
        | true =>
          rw [hw] at h104
          simp only [eBase, bEr] at h104
          simp only [c59, eBase, rAr, h102, hc, h60, h104, n1, evX, Int.reduceEq, Int.reduceLT, Int.reduceLE, Nat.reduceMul, Nat.reduceMod, evW, fn_eq, evR, Nat.reduceAdd, Nat.reduceLT, Nat.reduceLeDiff, reduceIte, Nat.reduceEqDiff, reduceCtorEq, argEnv, eq_self, if_true, if_false]
          rfl
        | false =>
          rw [hw] at h104
          simp only [eBase, bEr] at h104
          simp only [c59, eBase, rAr, h102, hc, h60, h104, n1, evX, Int.reduceEq, Int.reduceLT, Int.reduceLE, Nat.reduceMul, Nat.reduceMod, evW, fn_eq, evR, Nat.reduceAdd, Nat.reduceLT, Nat.reduceLeDiff, reduceIte, Nat.reduceEqDiff, reduceCtorEq, argEnv, eq_self, if_true, if_false]
          rfl
      · have n1 : (0 : Int) ≤ (m : Int) := by omega
        have h103 := f103 b hb hv m k hm h3
        cases hi : isAb b.types (m : Int) (k : Int) with
        | false =>
          rw [hi] at h103
          simp only [eBase, bEr] at h103
          rw [if_pos ⟨n1, rfl⟩]
          simp only [c59, eBase, rAr, h102, hc, h60, h103, n1, evX, Int.reduceEq, Int.reduceLT, Int.reduceLE, Nat.reduceMul, Nat.reduceMod, evW, fn_eq, evR, Nat.reduceAdd, Nat.reduceLT, Nat.reduceLeDiff, reduceIte, Nat.reduceEqDiff, reduceCtorEq, argEnv, eq_self, if_true, if_false]
          rfl
        | true =>
          rw [hi] at h103
          simp only [eBase, bEr] at h103
          rw [if_neg (fun h => by cases h.2)]
          cases hw : cndOk t.fields a.whn with
          | true =>
            rw [hw] at h104
            simp only [eBase, bEr] at h104
            simp only [c59, eBase, rAr, h102, hc, h60, h103, h104, n1, evX, Int.reduceEq, Int.reduceLT, Int.reduceLE, Nat.reduceMul, Nat.reduceMod, evW, fn_eq, evR, Nat.reduceAdd, Nat.reduceLT, Nat.reduceLeDiff, reduceIte, Nat.reduceEqDiff, reduceCtorEq, argEnv, eq_self, if_true, if_false]
            rfl
          | false =>
            rw [hw] at h104
            simp only [eBase, bEr] at h104
            simp only [c59, eBase, rAr, h102, hc, h60, h103, h104, n1, evX, Int.reduceEq, Int.reduceLT, Int.reduceLE, Nat.reduceMul, Nat.reduceMod, evW, fn_eq, evR, Nat.reduceAdd, Nat.reduceLT, Nat.reduceLeDiff, reduceIte, Nat.reduceEqDiff, reduceCtorEq, argEnv, eq_self, if_true, if_false]
            rfl
/-- where a check stands -/
structure Chk (ts : List Ty) (l : List Ar) (i : Nat) (ab : Int) : Prop where
  le : i ≤ l.length
  abk : abOk ts ab
  eq : chkA ts (-1) l = chkA ts ab (l.drop i)
theorem Chk.step {ts : List Ty} {l : List Ar} {i : Nat} {ab : Int} (c : Chk ts l i ab) {a : Ar} (ha : l[i]? = some a) (hs : stat ts ab a = sWell) : Chk ts l (i + 1) (tyIx ts a.seg) := by
  have hlt := (List.getElem?_eq_some_iff.1 ha).1
  refine ⟨hlt, abOk_tyIx .., ?_⟩
  have hd := drop_at ha
  rw [c.eq, hd, chkA, if_pos hs]
theorem Chk.bad {ts : List Ty} {l : List Ar} {i : Nat} {ab : Int} (c : Chk ts l i ab) {a : Ar} (ha : l[i]? = some a) (hs : stat ts ab a ≠ sWell) : chkA ts (-1) l = stat ts ab a := by
  have hlt := (List.getElem?_eq_some_iff.1 ha).1
  have hd := drop_at ha
  rw [c.eq, hd, chkA, if_neg hs]
theorem Chk.fin {ts : List Ty} {l : List Ar} {i : Nat} {ab : Int} (c : Chk ts l i ab) (h : l.length ≤ i) : chkA ts (-1) l = sWell := by
  rw [c.eq, List.drop_eq_nil_of_le h]; rfl
theorem frz_strL {H H1 : Heap} {rv : AV} {rows : List (List AV)} {ids : List Nat} (hf : fz H1 fzDepth rv = some (.lst rows, ids)) (hs : rv.scal = true) (ht : H1.take H.length = H) (hi : ∀ x ∈ ids, H.length ≤ x) (s : ByteArray) :
    calK true H (some (.tup [.str s, rv], H1)) = some (.tup [.str s, .lst rows], H) := by
  refine calK_frz (ids := ids) ?_ rfl ht hi
  have h1 : fz1 H1 rv = some (.lst rows, ids) := by
    cases rv <;> first | exact hf | (simp [AV.scal] at hs)
  have h2 : fz1 H1 (.str s) = some (.str s, []) := rfl
  simp only [fzRes, fzCells, h1, h2, List.append_nil, List.nil_append, Option.map_some]
theorem f123 (b : Base) (hb : b.Ok) (hv : validB b = true) (l : List Ar) (hok : ∀ a ∈ l, a.Ok) (H : Heap) :
    cal (evC cprog) true 123 [eBase b, eArs l] H = some (.tup [.str (chkS b.types l), eIs (if chkS b.types l = sWell then tysA b.types l else [])], H) := by
  rw [cal_of at123]
  have hlen := (sArs [] l).len
  simp only [List.length_map] at hlen
  by_cases h5 : (5 : Int) < (l.length : Int)
  · have e : chkS b.types l = sAJ := if_pos h5
    rw [e, if_neg (by decide)]
    simp only [c123, eBase, hlen, h5, evX, Int.reduceEq, Int.reduceLT, Int.reduceLE, Nat.reduceMul, Nat.reduceMod, evW, fn_eq, evR, Nat.reduceAdd, Nat.reduceLT, Nat.reduceLeDiff, reduceIte, Nat.reduceEqDiff, reduceCtorEq, argEnv, eq_self, if_true, if_false]
    exact calK_frz (ids := []) rfl rfl (by simp) (by simp)
  have e0 : chkS b.types l = chkA b.types (-1) l := if_neg h5
  obtain ⟨K, hK⟩ : ∃ K : Heap, K = H ++ [bBase b] := ⟨_, rfl⟩
  have kl : K.length = H.length + 1 := by rw [hK]; simp
  have kt : ∀ Z, (K ++ Z).take H.length = H := fun Z => by rw [hK]; simp
  have kb : ∀ Z, (K ++ Z)[H.length]? = some (bBase b) := fun Z => by rw [hK]; simp
  simp only [bBase] at kb
  have L := fun (st : St) (hE : keepEnv st.1 [2, 6, 7, 15, 16, 17] = [(2, .ptr H.length 0 4 0 0), (6, .int .i64 (-1)), (7, .nils), (15, eArs l), (16, .int .i64 (l.length : Int)), (17, .int .i64 0)]) (hH : st.2 = K) (z : Option (CX × St)) (hz : itLim (evCode (evC cprog) itLim c123_l0) st = z) =>
    loop_rule (σ := Nat × Int × Heap × AV) (m := [2, 6, 7, 15, 16, 17]) (env := fun s => [(2, .ptr H.length 0 4 0 0), (6, .int .i64 s.2.1), (7, s.2.2.2), (15, eArs l), (16, .int .i64 (l.length : Int)), (17, .int .i64 (s.1 : Int))]) (hp := fun s => K ++ s.2.2.1)
    (P := fun _ r => ∃ T X rv, r.2 = (T, K ++ X) ∧ ((r.1 = .exit 0 ∧ chkS b.types l = sWell ∧ keepEnv T [7] = [(7, rv)] ∧ Out K.length 1 3 X rv ((tysA b.types l).map rI)) ∨ (r.1 = .ret ∧ chkS b.types l ≠ sWell ∧ get T 4 = some (.str (chkS b.types l)) ∧ get T 5 = some .nils)))
    (mu := fun s => l.length - s.1) (I := fun s => Chk b.types l s.1 s.2.1 ∧ Out K.length 1 3 s.2.2.1 s.2.2.2 ((tysA b.types (l.take s.1)).map rI)) (evCode (evC cprog) itLim c123_l0) (by
      intro ⟨i, ab, X, rv⟩ ⟨w, hO⟩ E hE
      simp only at w hO hE ⊢
      by_cases hlt : i < l.length
      · obtain ⟨a, ha⟩ : ∃ a, l[i]? = some a := ⟨_, List.getElem?_eq_getElem hlt⟩
        have hil : (i : Int) < (l.length : Int) := by omega
        have haa := aAr ha
        have h153 := f153 b hb hv ab w.abk a (hok a (List.mem_of_getElem? ha))
        have hw := wrapS hlt (by omega)
        by_cases hs : stat b.types ab a = sWell
        · rw [if_pos hs, hs] at h153
          have w2 := w.step ha hs
          have hO1 := hO.more [⟨0, true, 82, 3, [[.str a.seg, .str a.codes, eGrs a.whn]]⟩]
          have hO2 := hO1.more [⟨0, true, 3, 1, [[.int .i64 (tyIx b.types a.seg)]]⟩]
          obtain ⟨rv1, X1, a1, t1, O1⟩ := hO2.app K rfl 8 (.ref (K.length + (X.length + 1)) 0 1 0 1) [rI (tyIx b.types a.seg)] (by simp [srcRows, rowsOf, curBlk, at_app, rI]) (by simp [rI]) (by simp [reach, tysA]; omega)
          have hra : (tysA b.types (l.take i)).map rI ++ [rI (tyIx b.types a.seg)] = (tysA b.types (l.take (i + 1))).map rI := by
            rw [List.take_add_one, ha]; simp [tysA]
          rw [hra] at O1
          simp only [List.append_assoc, List.cons_append, List.nil_append] at a1
          simp only [eBase, rAr, sWell] at h153
          simp only [c123_l0, hE, hil, haa, rAr, kb, h153, a1, t1, hw, evX, Int.reduceEq, Int.reduceLT, Int.reduceLE, Nat.reduceMul, Nat.reduceMod, evW, fn_eq, evR, Nat.reduceAdd, Nat.reduceLT, Nat.reduceLeDiff, reduceIte, Nat.reduceEqDiff, reduceCtorEq, argEnv, eq_self, if_true, if_false]
          exact q_next (i + 1, tyIx b.types a.seg, X1, rv1) (by rfl) rfl ⟨w2, O1⟩ (by simp only; omega) fun r h => h
        · rw [if_neg hs] at h153
          have e2 := w.bad ha hs
          rw [← e0] at e2
          have hs' : (stat b.types ab a = (⟨#[32, 32]⟩ : ByteArray)) = False := eq_false hs
          simp only [eBase, rAr] at h153
          simp only [c123_l0, hE, hil, haa, rAr, kb, h153, hs', evX, Int.reduceEq, Int.reduceLT, Int.reduceLE, Nat.reduceMul, Nat.reduceMod, evW, fn_eq, evR, Nat.reduceAdd, Nat.reduceLT, Nat.reduceLeDiff, reduceIte, Nat.reduceEqDiff, reduceCtorEq, argEnv, eq_self, if_true, if_false]
          exact q_ret ⟨_, X ++ [(⟨0, true, 82, 3, [[.str a.seg, .str a.codes, eGrs a.whn]]⟩ : Blk)], .nils, rfl, .inr ⟨rfl, by rw [e2]; exact hs, by rw [e2]; rfl, rfl⟩⟩
      · have hil : ¬ (i : Int) < (l.length : Int) := by omega
        simp only [c123_l0, hE, hil, evX, Int.reduceEq, Int.reduceLT, Int.reduceLE, Nat.reduceMul, Nat.reduceMod, evW, fn_eq, evR, Nat.reduceAdd, Nat.reduceLT, Nat.reduceLeDiff, reduceIte, Nat.reduceEqDiff, reduceCtorEq, argEnv, eq_self, if_true, if_false]
        rw [List.take_of_length_le (by omega)] at hO
        exact q_exit ⟨_, X, rv, rfl, .inl ⟨rfl, by rw [e0, w.fin (by omega)], by rfl, hO⟩⟩) (0, -1, [], .nils) st ⟨⟨Nat.zero_le _, .inl rfl, by rw [List.drop_zero]⟩, .nils ..⟩ hE (by simpa using hH) z hz
  simp only [c123, eBase, hlen, h5, evX, Int.reduceEq, Int.reduceLT, Int.reduceLE, Nat.reduceMul, Nat.reduceMod, evW, fn_eq, evR, Nat.reduceAdd, Nat.reduceLT, Nat.reduceLeDiff, reduceIte, Nat.reduceEqDiff, reduceCtorEq, argEnv, eq_self, if_true, if_false]
  generalize hz : itLim _ _ = z
  obtain ⟨⟨e, T, H'⟩, rfl, T', X, rv, hr, hP⟩ := L _ (by rfl) (by rw [hK]; rfl) z hz
  clear hz L
  simp only [Prod.mk.injEq] at hr hP
  obtain ⟨rfl, rfl⟩ := hr
  rcases hP with ⟨rfl, hs, hT, hO⟩ | ⟨rfl, hs, hT4, hT5⟩
  · rw [if_pos hs, hs]
    obtain ⟨ids, g1, g2, g3⟩ := fz_out' hO K rfl (plain_ints _)
    have ht := kt X
    have hsc := out_tup hO
    generalize K ++ X = Z at *
    simp only [hT, hsc, evX, Int.reduceEq, Int.reduceLT, Int.reduceLE, Nat.reduceMul, Nat.reduceMod, evW, fn_eq, evR, Nat.reduceAdd, Nat.reduceLT, Nat.reduceLeDiff, reduceIte, Nat.reduceEqDiff, reduceCtorEq, argEnv, eq_self, if_true, if_false]
    exact frz_strL g1 g3 ht (fun x hx => by have := g2 x hx; omega) _
  · rw [if_neg hs]
    have ht := kt X
    generalize K ++ X = Z at *
    simp only [hT4, hT5, evX, Int.reduceEq, Int.reduceLT, Int.reduceLE, Nat.reduceMul, Nat.reduceMod, evW, fn_eq, evR, Nat.reduceAdd, Nat.reduceLT, Nat.reduceLeDiff, reduceIte, Nat.reduceEqDiff, reduceCtorEq, argEnv, eq_self, if_true, if_false]
    exact frz_strL (ids := []) rfl rfl ht (by simp) _
theorem f85 (b : Base) (hb : b.Ok) (hv : validB b = true) (l : List Ar) (hok : ∀ a ∈ l, a.Ok) (H : Heap) :
    cal (evC cprog) false 85 [eBase b, eArs l] H = some (.tup [.str (chkS b.types l), .int .i64 0], H) := by
  rw [cal_of at85]
  have h75 := f75 b hb
  rw [hv] at h75
  have h123 := f123 b hb hv l hok
  simp only [eBase] at h75 h123
  simp only [c85, eBase, h75, h123, evX, Int.reduceEq, Int.reduceLT, Int.reduceLE, Nat.reduceMul, Nat.reduceMod, evW, fn_eq, evR, Nat.reduceAdd, Nat.reduceLT, Nat.reduceLeDiff, reduceIte, Nat.reduceEqDiff, reduceCtorEq, argEnv, eq_self, if_true, if_false]
theorem f86 (b : Base) (hb : b.Ok) (hv : validB b = true) (l : List Ar) (hok : ∀ a ∈ l, a.Ok) (H : Heap) :
    cal (evC cprog) true 86 [eBase b, eArs l] H = some (if chkS b.types l = sWell then .tup [eIs (tysA b.types l), .int .i64 0] else .tup [eIs [], .int .i64 2], H) := by
  rw [cal_of at86]
  have h75 := f75 b hb
  rw [hv] at h75
  have h123 := f123 b hb hv l hok
  have hcu : (eIs (tysA b.types l)).cells = [eIs (tysA b.types l)] := rfl
  have htu : (eIs (tysA b.types l)).isTup = false := rfl
  by_cases hs : chkS b.types l = sWell
  · rw [if_pos hs, hs] at h123
    rw [if_pos hs]
    simp only [eBase, sWell] at h75 h123
    simp only [c86, eBase, h75, h123, hcu, htu, evX, Int.reduceEq, Int.reduceLT, Int.reduceLE, Nat.reduceMul, Nat.reduceMod, evW, fn_eq, evR, Nat.reduceAdd, Nat.reduceLT, Nat.reduceLeDiff, reduceIte, Nat.reduceEqDiff, reduceCtorEq, argEnv, eq_self, if_true, if_false]
    exact calK_frz (ids := []) rfl rfl (by simp) (by simp)
  · rw [if_neg hs] at h123
    rw [if_neg hs]
    have hs' : (chkS b.types l = (⟨#[32, 32]⟩ : ByteArray)) = False := eq_false hs
    simp only [eBase] at h75 h123
    simp only [c86, eBase, h75, h123, hs', evX, Int.reduceEq, Int.reduceLT, Int.reduceLE, Nat.reduceMul, Nat.reduceMod, evW, fn_eq, evR, Nat.reduceAdd, Nat.reduceLT, Nat.reduceLeDiff, reduceIte, Nat.reduceEqDiff, reduceCtorEq, argEnv, eq_self, if_true, if_false]
    exact calK_frz (ids := []) rfl rfl (by simp) (by simp)
theorem f32 (b : Base) (hb : b.Ok) (hv : validB b = true) (l : List Ar) (hok : ∀ a ∈ l, a.Ok) (H : Heap) :
    cal (evC cprog) false 32 [eBase b, eArs l] H = some (.tup [.str (chkS b.types l), .int .i64 0], H) := by
  rw [cal_of at32]
  have h43 := f43 b hb
  rw [hv] at h43
  have hlen := (sArs [] l).len
  simp only [List.length_map] at hlen
  simp only [eBase] at h43
  by_cases h5 : (5 : Int) < (l.length : Int)
  · have e : chkS b.types l = sAJ := if_pos h5
    rw [e]
    simp only [c32, eBase, h43, hlen, h5, evX, Int.reduceEq, Int.reduceLT, Int.reduceLE, Nat.reduceMul, Nat.reduceMod, evW, fn_eq, evR, Nat.reduceAdd, Nat.reduceLT, Nat.reduceLeDiff, reduceIte, Nat.reduceEqDiff, reduceCtorEq, argEnv, eq_self, if_true, if_false]
    rfl
  have e0 : chkS b.types l = chkA b.types (-1) l := if_neg h5
  simp only [c32, eBase, h43, hlen, h5, evX, Int.reduceEq, Int.reduceLT, Int.reduceLE, Nat.reduceMul, Nat.reduceMod, evW, fn_eq, evR, Nat.reduceAdd, Nat.reduceLT, Nat.reduceLeDiff, reduceIte, Nat.reduceEqDiff, reduceCtorEq, argEnv, eq_self, if_true, if_false]
  generalize hz : itLim _ _ = z
  have key : ∀ K : Heap, Sits K H.length (bBase b) → ∀ (st : St), keepEnv st.1 [1, 2, 6, 7] = [(1, eArs l), (2, .ptr H.length 0 4 0 0), (6, .int .i64 (-1)), (7, .int .i64 0)] → st.2 = K → ∀ z, itLim (evCode (evC cprog) itLim c32_l0) st = z →
      ∃ T e, z = some (e, T, K) ∧ ((e = .exit 0 ∧ chkS b.types l = sWell) ∨ (e = .ret ∧ get T 4 = some (.str (chkS b.types l)) ∧ get T 5 = some (.int .i64 0))) := by
    intro K kb st hE hH z hz
    have kb' := kb.at
    simp only [bBase] at kb'
    have L := loop_rule (σ := Nat × Int) (m := [1, 2, 6, 7]) (env := fun s => [(1, eArs l), (2, .ptr H.length 0 4 0 0), (6, .int .i64 s.2), (7, .int .i64 (s.1 : Int))]) (hp := fun _ => K)
      (P := fun _ r => r.2.2 = K ∧ ((r.1 = .exit 0 ∧ chkS b.types l = sWell) ∨ (r.1 = .ret ∧ get r.2.1 4 = some (.str (chkS b.types l)) ∧ get r.2.1 5 = some (.int .i64 0))))
      (mu := fun s => l.length - s.1) (I := fun s => Chk b.types l s.1 s.2) (evCode (evC cprog) itLim c32_l0) ?_ (0, -1) st ⟨Nat.zero_le _, .inl rfl, by rw [List.drop_zero]⟩ hE hH z hz
    · obtain ⟨⟨e, T, H'⟩, rfl, hr, hP⟩ := L
      simp only at hr hP
      subst hr
      exact ⟨T, e, rfl, hP⟩
    · intro ⟨i, ab⟩ w E hE
      simp only at w hE ⊢
      by_cases hlt : i < l.length
      · obtain ⟨a, ha⟩ : ∃ a, l[i]? = some a := ⟨_, List.getElem?_eq_getElem hlt⟩
        have hil : (i : Int) < (l.length : Int) := by omega
        have haa := aAr ha
        have h59 := f59 b hb hv ab w.abk a (hok a (List.mem_of_getElem? ha))
        have h60 := f60 b hb hv a.seg
        have hw := wrapS hlt (by omega)
        by_cases hs : stat b.types ab a = sWell
        · rw [hs] at h59
          have w2 := w.step ha hs
          have h60' : ∃ e, ixE (tyIx b.types a.seg) = .tup [.int .i64 (tyIx b.types a.seg), .int .i64 e] := by
            have := (stat_well hs).2.1
            exact ⟨0, by rw [ixE, if_neg (by omega)]⟩
          obtain ⟨e, he⟩ := h60'
          rw [he] at h60
          simp only [eBase, rAr, sWell] at h59 h60
          simp only [c32_l0, hE, hil, hlen, haa, rAr, kb', h59, h60, hw, evX, Int.reduceEq, Int.reduceLT, Int.reduceLE, Nat.reduceMul, Nat.reduceMod, evW, fn_eq, evR, Nat.reduceAdd, Nat.reduceLT, Nat.reduceLeDiff, reduceIte, Nat.reduceEqDiff, reduceCtorEq, argEnv, eq_self, if_true, if_false]
          exact q_next (i + 1, tyIx b.types a.seg) (by rfl) rfl w2 (by simp only; omega) fun r h => h
        · have e2 := w.bad ha hs
          rw [← e0] at e2
          have hs' : (stat b.types ab a = (⟨#[32, 32]⟩ : ByteArray)) = False := eq_false hs
          simp only [eBase, rAr] at h59
          simp only [c32_l0, hE, hil, hlen, haa, rAr, kb', h59, hs', evX, Int.reduceEq, Int.reduceLT, Int.reduceLE, Nat.reduceMul, Nat.reduceMod, evW, fn_eq, evR, Nat.reduceAdd, Nat.reduceLT, Nat.reduceLeDiff, reduceIte, Nat.reduceEqDiff, reduceCtorEq, argEnv, eq_self, if_true, if_false]
          exact q_ret ⟨rfl, .inr ⟨rfl, by rw [e2]; rfl, rfl⟩⟩
      · have hil : ¬ (i : Int) < (l.length : Int) := by omega
        simp only [c32_l0, hE, hil, hlen, evX, Int.reduceEq, Int.reduceLT, Int.reduceLE, Nat.reduceMul, Nat.reduceMod, evW, fn_eq, evR, Nat.reduceAdd, Nat.reduceLT, Nat.reduceLeDiff, reduceIte, Nat.reduceEqDiff, reduceCtorEq, argEnv, eq_self, if_true, if_false]
        exact q_exit ⟨rfl, .inl ⟨rfl, by rw [e0, w.fin (by omega)]⟩⟩
  obtain ⟨T, e, rfl, hP⟩ := key (H ++ [bBase b]) (.mk (by simp)) _ (by rfl) (by simp [bBase]) z hz
  rcases hP with ⟨rfl, hs⟩ | ⟨rfl, hT4, hT5⟩
  · rw [hs]
    simp only [evX, Int.reduceEq, Int.reduceLT, Int.reduceLE, Nat.reduceMul, Nat.reduceMod, evW, fn_eq, evR, Nat.reduceAdd, Nat.reduceLT, Nat.reduceLeDiff, reduceIte, Nat.reduceEqDiff, reduceCtorEq, argEnv, eq_self, if_true, if_false]
    rfl
  · simp only [hT4, hT5, evX, Int.reduceEq, Int.reduceLT, Int.reduceLE, Nat.reduceMul, Nat.reduceMod, evW, fn_eq, evR, Nat.reduceAdd, Nat.reduceLT, Nat.reduceLeDiff, reduceIte, Nat.reduceEqDiff, reduceCtorEq, argEnv, eq_self, if_true, if_false]
end Go.Proofs.YtbdpceigmnpoaaaGreatDoor.Code

/- call: slices.Repeat of one number; the book of a base and a forest. -/
set_option linter.unusedSimpArgs false
set_option linter.unusedVariables false
namespace Go.Proofs.YtbdpceigmnpoaaaGreatDoor.Code
open Go.Proofs.YtbdpceigmnpoaaaGreatDoor.Ev

theorem u64_small (n : Nat) (h : n ≤ 12) : binK .and (some (.int .u64 (n : Int))) (some (.int .u64 4294967295)) = some (.int .u64 (n : Int)) ∧ binK .shr (some (.int .u64 (n : Int))) (some (.int .u64 32)) = some (.int .u64 0) := by
  have : n = 0 ∨ n = 1 ∨ n = 2 ∨ n = 3 ∨ n = 4 ∨ n = 5 ∨ n = 6 ∨ n = 7 ∨ n = 8 ∨ n = 9 ∨ n = 10 ∨ n = 11 ∨ n = 12 := by omega
  rcases this with rfl | rfl | rfl | rfl | rfl | rfl | rfl | rfl | rfl | rfl | rfl | rfl | rfl <;> exact ⟨rfl, rfl⟩
theorem wrapU {a : Int} (h0 : 0 ≤ a) (h1 : a ≤ 1000000) : IntKind.u64.wrap a = a := by
  simp only [IntKind.wrap]
  split <;> simp_all [IntKind.bits, IntKind.signed] <;> omega
theorem f181 (n : Nat) (h : n ≤ 12) (H : Heap) : cal (evC cprog) false 181 [.int .u64 1, .int .u64 (n : Int)] H = some (.tup [.int .u64 0, .int .u64 (n : Int)], H) := by
  rw [cal_of at181]
  obtain ⟨n1, n2⟩ := u64_small n h
  obtain ⟨o1, o2⟩ := u64_small 1 (by omega)
  obtain ⟨z1, z2⟩ := u64_small 0 (by omega)
  simp only [Int.natCast_one, Int.natCast_zero] at o1 o2 z1 z2
  have w1 : IntKind.u64.wrap (1 * (n : Int)) = (n : Int) := by rw [Int.one_mul, wrapU (by omega) (by omega)]
  have w2 : IntKind.u64.wrap (0 * (n : Int)) = 0 := by rw [Int.zero_mul, wrapU (by omega) (by omega)]
  have w3 : IntKind.u64.wrap (0 + 0) = 0 := rfl
  have w4 : IntKind.u64.wrap (1 * 0) = 0 := rfl
  have w5 : IntKind.u64.wrap (0 * 0) = 0 := rfl
  simp only [c181, n1, n2, o1, o2, z1, z2, w1, w2, w3, w4, w5, evX, Int.reduceEq, Int.reduceLT, Int.reduceLE, Nat.reduceMul, Nat.reduceMod, evW, fn_eq, evR, Nat.reduceAdd, Nat.reduceLT, Nat.reduceLeDiff, reduceIte, Nat.reduceEqDiff, reduceCtorEq, argEnv, eq_self, if_true, if_false]
theorem f161 (n : Nat) (h : n ≤ 12) (H : Heap) : cal (evC cprog) false 161 [.int .u64 1, .int .u64 (n : Int)] H = some (.tup [.int .u64 0, .int .u64 (n : Int)], H) := by
  rw [cal_of at161]
  have h1 := f181 n h
  simp only [c161, h1, evX, Int.reduceEq, Int.reduceLT, Int.reduceLE, Nat.reduceMul, Nat.reduceMod, evW, fn_eq, evR, Nat.reduceAdd, Nat.reduceLT, Nat.reduceLeDiff, reduceIte, Nat.reduceEqDiff, reduceCtorEq, argEnv, eq_self, if_true, if_false]
/-- what slices.Repeat has filled so far -/
def repBlk (k N : Nat) : Blk := ⟨0, true, 3, 1, List.replicate k [.int .i64 (-1)] ++ List.replicate (N - k) [.int .i64 0]⟩
theorem rep_els (a z : AV) {k m N : Nat} (h1 : m ≤ k) (h2 : k + m ≤ N) : (List.replicate k [a] ++ List.replicate (N - k) [z]).take k ++ (List.replicate k [a]).take m ++ (List.replicate k [a] ++ List.replicate (N - k) [z]).drop (k + m) = List.replicate (k + m) [a] ++ List.replicate (N - (k + m)) [z] := by
  rw [List.take_left' (by simp), List.take_replicate, List.drop_append, List.drop_replicate, List.drop_replicate, List.length_replicate, show k - (k + m) = 0 by omega, show N - k - (k + m - k) = N - (k + m) by omega, show min m k = m by omega, List.replicate_zero, List.nil_append, List.replicate_append_replicate]
theorem rep_cpy (N : Nat) (H : Heap) : ∀ k, 0 < k → k < N → copyK 1 (H ++ [repBlk k N]) (some (.ref H.length 0 1 k (N - k))) (some (.ref H.length 0 1 0 k)) = some (.int .i64 (min k (N - k) : Nat), H ++ [repBlk (k + min k (N - k)) N]) := fun k k0 k1 => by
  have e2 : curBlk (H ++ [repBlk k N]) H.length 0 1 = some (repBlk k N) := by simp [curBlk, repBlk]
  obtain ⟨j, hj⟩ : ∃ j, k = j + 1 := ⟨k - 1, by omega⟩
  have e3 : srcRows (H ++ [repBlk k N]) (.ref H.length 0 1 0 k) = some (List.replicate k [.int .i64 (-1)]) := by
    rw [hj] at e2 ⊢
    simp only [srcRows, rowsOf, e2, Option.map_some, List.drop_zero]
    simp only [repBlk]
    rw [List.take_left' (by simp)]
  have hh : headOk 1 (List.replicate k [AV.int .i64 (-1)]) = true := by rw [hj]; rfl
  simp only [copyK, e3, evCopy, evLen, List.length_replicate]
  rw [if_neg (by omega), if_neg (by rw [hh]; simp)]
  simp only [e2, if_true]
  have hx := rep_els (.int .i64 (-1)) (.int .i64 0) (k := k) (m := min k (N - k)) (N := N) (by omega) (by omega)
  simp only [repBlk, hx, List.set_append_right _ _ (Nat.le_refl _), Nat.sub_self, List.set_cons_zero]
theorem l136 (N : Nat) (h0 : 0 < N) (h : N ≤ 12) (H : Heap) (st : St) (hE : keepEnv st.1 [7, 8] = [(7, .ref H.length 0 1 0 N), (8, .int .i64 1)]) (hH : st.2 = H ++ [repBlk 1 N]) (z : Option (CX × St)) (hz : itLim (evCode (evC cprog) itLim c136_l0) st = z) :
    ∃ T, z = some (.exit 0, T, H ++ [repBlk N N]) ∧ keepEnv T [7] = [(7, .ref H.length 0 1 0 N)] := by
  have L := loop_rule (σ := Nat) (m := [7, 8]) (env := fun k => [(7, .ref H.length 0 1 0 N), (8, .int .i64 (k : Int))]) (hp := fun k => H ++ [repBlk k N])
    (P := fun _ r => ∃ T, r = (.exit 0, T, H ++ [repBlk N N]) ∧ keepEnv T [7] = [(7, .ref H.length 0 1 0 N)])
    (mu := fun k => N - k) (I := fun k => 0 < k ∧ k ≤ N) (evCode (evC cprog) itLim c136_l0) ?_ 1 st ⟨by omega, by omega⟩ hE hH z hz
  · obtain ⟨_, rfl, T, rfl, hT⟩ := L
    exact ⟨T, rfl, hT⟩
  · rintro k ⟨k0, k1⟩ E hE
    by_cases hlt : k < N
    · have hk : (k : Int) < (N : Int) := by omega
      have s1 : ∀ Z, evSlc Z 1 (.ref H.length 0 1 0 N) (some k) none none = some (.ref H.length 0 1 k (N - k)) := fun Z => by simp [evSlc, k1]
      have s2 : ∀ Z, evSlc Z 1 (.ref H.length 0 1 0 N) none (some k) none = some (.ref H.length 0 1 0 k) := fun Z => by simp [evSlc, k1]
      have hc := rep_cpy N H k k0 hlt
      have hw : IntKind.i64.wrap ((k : Int) + ((min k (N - k) : Nat) : Int)) = ((k + min k (N - k) : Nat) : Int) := by rw [wrap_i64 (by omega) (by omega)]; omega
      simp only [c136_l0, hE, hk, s1, s2, asNat_cast, hc, hw, evX, Int.reduceEq, Int.reduceLT, Int.reduceLE, Nat.reduceMul, Nat.reduceMod, evW, fn_eq, evR, Nat.reduceAdd, Nat.reduceLT, Nat.reduceLeDiff, reduceIte, Nat.reduceEqDiff, reduceCtorEq, argEnv, eq_self, if_true, if_false]
      exact q_next (k + min k (N - k)) (by rfl) rfl ⟨by omega, by omega⟩ (by omega) fun r h => h
    · have hk : ¬ (k : Int) < (N : Int) := by omega
      have : k = N := by omega
      subst this
      simp only [c136_l0, hE, hk, evX, Int.reduceEq, Int.reduceLT, Int.reduceLE, Nat.reduceMul, Nat.reduceMod, evW, fn_eq, evR, Nat.reduceAdd, Nat.reduceLT, Nat.reduceLeDiff, reduceIte, Nat.reduceEqDiff, reduceCtorEq, argEnv, eq_self, if_true, if_false]
      exact q_exit ⟨_, rfl, by rfl⟩
set_option maxHeartbeats 4000000 in
theorem f136 (N : Nat) (h0 : 0 < N) (h : N ≤ 12) (b : Nat) (H : Heap) (hb : H[b]? = some ⟨0, true, 3, 1, [[.int .i64 (-1)]]⟩) : cal (evC cprog) false 136 [.ref b 0 1 0 1, .int .i64 (N : Int)] H = some (.ref H.length 0 1 0 N, H ++ [⟨0, true, 3, 1, List.replicate N [.int .i64 (-1)]⟩]) := by
  rw [cal_of at136]
  have h161 : ∀ K, cal (evC cprog) false 161 [.int .u64 ((1 : Nat) : Int), .int .u64 (N : Int)] K = some (.tup [.int .u64 0, .int .u64 (N : Int)], K) := f161 N h
  have hw1 : IntKind.u64.wrap ((1 : Nat) : Int) = ((1 : Nat) : Int) := rfl
  have hw2 : IntKind.u64.wrap (N : Int) = (N : Int) := wrapU (by omega) (by omega)
  have hw3 : IntKind.i64.wrap (N : Int) = (N : Int) := wrap_i64 (by omega) (by omega)
  have hn0 : ¬ (N : Int) < 0 := by omega
  have hn1 : ¬ (9223372036854775807 : Int) < (N : Int) := by omega
  have hm : ∀ K : Heap, mksK 3 1 8 [.int .i64 0] K (some (.int .i64 (N : Int))) (some (.int .i64 (N : Int))) = some (.ref K.length 0 1 0 N, K ++ [repBlk 0 N]) := fun K => by
    have ha : asNat (.int .i64 (N : Int)) = some N := asNat_cast .i64 N
    simp only [mksK, ha]
    rw [if_pos ⟨Nat.le_refl _, by unfold reach; omega, by unfold reach; omega, rfl, h0⟩]
    simp [repBlk]
  have hbl := (List.getElem?_eq_some_iff.1 hb).1
  have hc1 : copyK 1 (H ++ [repBlk 0 N]) (some (.ref H.length 0 1 0 N)) (some (.ref b 0 1 0 1)) = some (.int .i64 1, H ++ [repBlk 1 N]) := by
    have e1 : curBlk (H ++ [repBlk 0 N]) b 0 1 = some ⟨0, true, 3, 1, [[.int .i64 (-1)]]⟩ := by simp [curBlk, List.getElem?_append_left hbl, hb]
    have e2 : curBlk (H ++ [repBlk 0 N]) H.length 0 1 = some (repBlk 0 N) := by simp [curBlk, repBlk]
    have e3 : srcRows (H ++ [repBlk 0 N]) (.ref b 0 1 0 1) = some [[.int .i64 (-1)]] := by simp [srcRows, rowsOf, e1]
    have e4 : min 1 N = 1 := by omega
    simp only [copyK, e3, evCopy, evLen, List.length_cons, List.length_nil, Nat.zero_add, e4]
    rw [if_neg (by omega)]
    simp only [headOk, List.length_cons, List.length_nil, e2, if_true]
    simp [repBlk]
  simp only [c136, hn0, h161, hw1, hw2, hw3, hn1, hm, hc1, Int.lt_irrefl, evX, Int.reduceEq, Int.reduceLT, Int.reduceLE, Nat.reduceMul, Nat.reduceMod, evW, fn_eq, evR, Nat.reduceAdd, Nat.reduceLT, Nat.reduceLeDiff, reduceIte, Nat.reduceEqDiff, reduceCtorEq, argEnv, eq_self, if_true, if_false]
  generalize hz : itLim _ _ = z
  obtain ⟨T, rfl, hT⟩ := l136 N h0 h H _ (by rfl) (by rfl) z hz
  simp only [hT, evX, Int.reduceEq, Int.reduceLT, Int.reduceLE, Nat.reduceMul, Nat.reduceMod, evW, fn_eq, evR, Nat.reduceAdd, Nat.reduceLT, Nat.reduceLeDiff, reduceIte, Nat.reduceEqDiff, reduceCtorEq, argEnv, eq_self, if_true, if_false]
  simp [repBlk]

/-! the book -/
def parL (b : Base) (f : List Item) (n : Nat) : List Int := (List.range n).map fun i => par b.types f i
def lasL (f : List Item) (N i : Nat) : List Int := (List.range N).map fun (k : Nat) => lastTo f (k : Int) i
def bBk (b : Base) (f : List Item) (pv : AV) : Blk := ⟨0, true, 149, 6, [[.str b.name, .int .i64 b.kind, eTys b.types, eSes b.indexes, eItems f, pv]]⟩
/-- a book lies there -/
def Bk (b : Base) (f : List Item) (p : Nat) (K : Heap) : Prop := ∃ pv, Sits K p (bBk b f pv) ∧ SlAt K 1 pv ((parL b f f.length).map rI)
theorem parL_at {b : Base} {f : List Item} {n i : Nat} (hi : i < n) : (parL b f n)[i]? = some (par b.types f i) := by simp [parL, hi]
theorem parL_step (b : Base) (f : List Item) (n : Nat) : parL b f (n + 1) = parL b f n ++ [par b.types f n] := by simp [parL, List.range_succ]
theorem lasL_at {f : List Item} {N i k : Nat} (hk : k < N) : (lasL f N i)[k]? = some (lastTo f (k : Int) i) := by simp [lasL, hk]
theorem lasL_zero (f : List Item) (N : Nat) : (lasL f N 0).map rI = List.replicate N [.int .i64 (-1)] := by
  rw [List.eq_replicate_iff]
  refine ⟨by simp [lasL], fun r hr => ?_⟩
  obtain ⟨x, hx, rfl⟩ := List.mem_map.1 hr
  obtain ⟨k, _, rfl⟩ := List.mem_map.1 hx
  rfl
theorem lasL_step {f : List Item} {N i k : Nat} (hk : typ f (i : Int) = (k : Int)) (hkN : k < N) : ((lasL f N i).map rI).set k [.int .i64 (i : Int)] = (lasL f N (i + 1)).map rI := by
  apply List.ext_getElem?
  intro j
  rw [List.getElem?_set]
  by_cases hj : j < N
  · have e1 : ((lasL f N (i + 1)).map rI)[j]? = some (rI (lastTo f (j : Int) (i + 1))) := by rw [List.getElem?_map, lasL_at hj]; rfl
    have e2 : ((lasL f N i).map rI)[j]? = some (rI (lastTo f (j : Int) i)) := by rw [List.getElem?_map, lasL_at hj]; rfl
    rw [e1, e2, lastTo, hk]
    by_cases he : k = j
    · subst he
      rw [if_pos rfl, if_pos (by simp [lasL, hkN]), if_pos rfl]; rfl
    · rw [if_neg he, if_neg (by omega)]
  · have e1 : ((lasL f N (i + 1)).map rI)[j]? = none := by rw [List.getElem?_eq_none]; simp [lasL]; omega
    have e2 : ((lasL f N i).map rI)[j]? = none := by rw [List.getElem?_eq_none]; simp [lasL]; omega
    rw [e1, e2, if_neg (by omega)]
end Go.Proofs.YtbdpceigmnpoaaaGreatDoor.Code

/- call: the book is opened. -/
set_option linter.unusedSimpArgs false
set_option linter.unusedVariables false
namespace Go.Proofs.YtbdpceigmnpoaaaGreatDoor.Code
open Go.Proofs.YtbdpceigmnpoaaaGreatDoor.Ev

theorem nilck_ptr (b v s i o : Nat) : nilckK (some (.ptr b v s i o)) = some (.ptr b v s i o) := rfl
theorem noRef_ptr (b v s i o : Nat) : noRef (.ptr b v s i o) = false := rfl
theorem out_cells {n sz ty : Nat} {X : Heap} {rv : AV} {rows : List (List AV)} (h : Out n sz ty X rv rows) : rv.cells = [rv] := by
  rcases h with ⟨rfl, rfl | rfl⟩ | ⟨h1, j, v, rfl, h3⟩ <;> rfl
theorem out_oblk {n sz ty : Nat} {X : Heap} {rv : AV} {rows : List (List AV)} (h : Out n sz ty X rv rows) : oblk rv ≠ some (n + X.length) := by
  rcases h with ⟨rfl, rfl | rfl⟩ | ⟨h1, j, v, rfl, h3⟩
  · simp [oblk]
  · simp [oblk]
  · have := (List.getElem?_eq_some_iff.1 h3).1
    simp only [oblk, ne_eq, Option.some.injEq]
    omega
def litB : Blk := ⟨0, true, 3, 1, [[.int .i64 (-1)]]⟩
def lasB (f : List Item) (N i : Nat) : Blk := ⟨0, true, 3, 1, (lasL f N i).map rI⟩
def opH (b : Base) (f : List Item) (H : Heap) (i : Nat) (rv : AV) (X : Heap) : Heap := H ++ (bBase b :: bBk b f rv :: litB :: lasB f b.types.length i :: X)
set_option maxHeartbeats 4000000 in
theorem l105 (b : Base) (f : List Item) (hr : Right b f) (H : Heap) (st : St)
    (hE : keepEnv st.1 [2, 5, 6, 20, 21, 22] = [(2, .ptr H.length 0 4 0 0), (5, .ptr (H.length + 1) 0 6 0 0), (6, .ref (H.length + 3) 0 1 0 b.types.length), (20, eItems f), (21, .int .i64 (f.length : Int)), (22, .int .i64 0)]) (hH : st.2 = opH b f H 0 .nils [])
    (z : Option (CX × St)) (hz : itLim (evCode (evC cprog) itLim c105_l0) st = z) : ∃ T rv X, z = some (.exit 0, T, opH b f H f.length rv X) ∧ keepEnv T [5] = [(5, .ptr (H.length + 1) 0 6 0 0)] ∧ Out (H.length + 4) 1 3 X rv ((parL b f f.length).map rI) := by
  have hfl := hr.len
  have L := loop_rule (σ := Nat × Heap × AV) (m := [2, 5, 6, 20, 21, 22]) (env := fun s => [(2, .ptr H.length 0 4 0 0), (5, .ptr (H.length + 1) 0 6 0 0), (6, .ref (H.length + 3) 0 1 0 b.types.length), (20, eItems f), (21, .int .i64 (f.length : Int)), (22, .int .i64 (s.1 : Int))]) (hp := fun s => opH b f H s.1 s.2.2 s.2.1)
    (P := fun _ r => ∃ T rv X, r = (.exit 0, T, opH b f H f.length rv X) ∧ keepEnv T [5] = [(5, .ptr (H.length + 1) 0 6 0 0)] ∧ Out (H.length + 4) 1 3 X rv ((parL b f f.length).map rI))
    (mu := fun s => f.length - s.1) (I := fun s => s.1 ≤ f.length ∧ Out (H.length + 4) 1 3 s.2.1 s.2.2 ((parL b f s.1).map rI)) (evCode (evC cprog) itLim c105_l0) ?_ (0, [], .nils) st ⟨Nat.zero_le _, .nils ..⟩ hE hH z hz
  · obtain ⟨_, rfl, T, rv, X, rfl, h1, h2⟩ := L
    exact ⟨T, rv, X, rfl, h1, h2⟩
  · rintro ⟨i, X, rv⟩ ⟨hi, hO⟩ E hE
    simp only at hi hO hE
    by_cases hlt : i < f.length
    · obtain ⟨x, k, t, hx, hk, hkl, ht, _⟩ := hr.item hlt
      have hil : (i : Int) < (f.length : Int) := by omega
      have ha := aItem hx
      have hat := aTy ht
      rw [← hk] at hat
      have hw := wrapS hlt (by omega)
      have hty : typ f (i : Int) = (k : Int) := by rw [typ_at hx, hk]
      have hO2 := hO.more [⟨0, true, 55, 2, [rItem x]⟩, ⟨0, true, 3, 1, [[.int .i64 (par b.types f i)]]⟩]
      obtain ⟨rv1, X1, a1, t1, O1, hkp, _⟩ := hO2.app2 (H ++ [bBase b, bBk b f rv, litB, lasB f b.types.length i]) (by simp) 8 (.ref (H.length + (X.length + 5)) 0 1 0 1) [rI (par b.types f i)] (by
        have : (H ++ [bBase b, bBk b f rv, litB, lasB f b.types.length i] ++ (X ++ [(⟨0, true, 55, 2, [rItem x]⟩ : Blk), ⟨0, true, 3, 1, [[.int .i64 (par b.types f i)]]⟩]))[H.length + (X.length + 5)]? = some ⟨0, true, 3, 1, [[.int .i64 (par b.types f i)]]⟩ := by
          rw [show H.length + (X.length + 5) = (H ++ [bBase b, bBk b f rv, litB, lasB f b.types.length i]).length + (X.length + 1) by simp; omega, at_app, at_app]; rfl
        simp [srcRows, rowsOf, curBlk, this, rI]) (by simp [rI]) (by simp) (by simp [reach, parL]; omega)
      have hX1 : X1[X.length]? = some ⟨0, true, 55, 2, [rItem x]⟩ := hkp X.length _ (by simp) (out_oblk hO)
      rw [← List.map_singleton, ← List.map_append, ← parL_step] at O1
      have hrc := out_cells O1
      have hls := lasL_step hty hkl
      have hsx : asNat (.int .i64 x.type) = some k := by rw [hk]; exact asNat_cast .i64 k
      have hset : ((lasL f b.types.length i).map rI).length = b.types.length := by simp [lasL]
      obtain ⟨old, hold⟩ : ∃ old, ((lasL f b.types.length i).map rI)[k]? = some [old] := ⟨.int .i64 (lastTo f (k : Int) i), by rw [List.getElem?_map, lasL_at hkl]; rfl⟩
      simp only [opH, bBk, bBase, litB, lasB, List.append_assoc, List.cons_append, List.nil_append, rItem] at a1 hX1 ⊢
      rcases hr.par hx hk ht with ⟨h1, h2, _⟩ | ⟨p, h1, h2, h3, h4, h5, h6⟩
      · have n0 : ¬ 0 ≤ t.parent := by omega
        rw [h2] at a1
        simp only [c105_l0, nilck_ptr, hE, hil, ha, hat, rItem, rTy, n0, a1, t1, hrc, hX1, hsx, hkl, hold, hls, hw, evX, Int.reduceEq, Int.reduceLT, Int.reduceLE, Nat.reduceMul, Nat.reduceMod, evW, fn_eq, evR, Nat.reduceAdd, Nat.reduceLT, Nat.reduceLeDiff, reduceIte, Nat.reduceEqDiff, reduceCtorEq, argEnv, eq_self, if_true, if_false]
        exact q_next (i + 1, X1, rv1) (by rfl) rfl ⟨hlt, O1⟩ (by simp only; omega) fun r h => h
      · obtain ⟨m, hm⟩ : ∃ m : Nat, t.parent = (m : Int) := ⟨t.parent.toNat, by omega⟩
        have hml : m < b.types.length := by omega
        have hla : ((lasL f b.types.length i).map rI)[m]? = some [.int .i64 (par b.types f i)] := by
          rw [List.getElem?_map, lasL_at hml]
          have e : par b.types f i = lastTo f (m : Int) i := by unfold par; rw [hty, tpar_at ht, hm, if_neg (by omega)]
          rw [e]; rfl
        have n0 : 0 ≤ t.parent := by omega
        have hpx : asNat (.int .i64 t.parent) = some m := by rw [hm]; exact asNat_cast .i64 m
        generalize par b.types f i = pi at *
        simp only [c105_l0, nilck_ptr, hE, hil, ha, hat, rItem, rTy, n0, hpx, hml, hla, a1, t1, hrc, hX1, hsx, hkl, hold, hls, hw, evX, Int.reduceEq, Int.reduceLT, Int.reduceLE, Nat.reduceMul, Nat.reduceMod, evW, fn_eq, evR, Nat.reduceAdd, Nat.reduceLT, Nat.reduceLeDiff, reduceIte, Nat.reduceEqDiff, reduceCtorEq, argEnv, eq_self, if_true, if_false]
        exact q_next (i + 1, X1, rv1) (by rfl) rfl ⟨hlt, O1⟩ (by simp only; omega) fun r h => h
    · have hil : ¬ (i : Int) < (f.length : Int) := by omega
      have : i = f.length := by omega
      subst this
      simp only [c105_l0, hE, hil, evX, Int.reduceEq, Int.reduceLT, Int.reduceLE, Nat.reduceMul, Nat.reduceMod, evW, fn_eq, evR, Nat.reduceAdd, Nat.reduceLT, Nat.reduceLeDiff, reduceIte, Nat.reduceEqDiff, reduceCtorEq, argEnv, eq_self, if_true, if_false]
      exact q_exit ⟨_, rv, X, rfl, by rfl, hO⟩
theorem o105 (b : Base) (f : List Item) (hr : Right b f) (H : Heap) : ∃ rv X, cal (evC cprog) false 105 [eBase b, eItems f] H = some (.ptr (H.length + 1) 0 6 0 0, opH b f H f.length rv X) ∧ Out (H.length + 4) 1 3 X rv ((parL b f f.length).map rI) := by
  rw [cal_of at105]
  have hb := hr.base
  have hls := hb.lens hr.valid
  have h0 : 0 < b.types.length := by
    have := hr.valid
    simp only [validB, areTys, Bool.and_eq_true, decide_eq_true_eq] at this
    omega
  have hlen := (sTys [] b.types).len
  have hfl := (sItems [] f).len
  simp only [List.length_map] at hlen hfl
  have h136 := f136 b.types.length h0 (by omega) (H.length + 2) (H ++ [bBase b, bBk b f .nils, litB]) (by simp [litB])
  have hz0 := lasL_zero f b.types.length
  simp only [bBase, bBk, litB, List.length_append, List.length_cons, List.length_nil, Nat.zero_add, Nat.reduceAdd, List.append_assoc, List.cons_append, List.nil_append] at h136
  rw [← hz0] at h136
  simp only [c105, eBase, hlen, hfl, h136, cells_eItems, isTup_eItems, evX, Int.reduceEq, Int.reduceLT, Int.reduceLE, Nat.reduceMul, Nat.reduceMod, evW, fn_eq, evR, Nat.reduceAdd, Nat.reduceLT, Nat.reduceLeDiff, reduceIte, Nat.reduceEqDiff, reduceCtorEq, argEnv, eq_self, if_true, if_false]
  generalize hz : itLim _ _ = z
  obtain ⟨T, rv, X, rfl, hT, hO⟩ := l105 b f hr H _ (by rfl) (by simp only [opH, bBk, bBase, litB, lasB]) z hz
  refine ⟨rv, X, ?_, hO⟩
  simp only [hT, noRef_ptr, opH, evX, Int.reduceEq, Int.reduceLT, Int.reduceLE, Nat.reduceMul, Nat.reduceMod, evW, fn_eq, evR, Nat.reduceAdd, Nat.reduceLT, Nat.reduceLeDiff, reduceIte, Nat.reduceEqDiff, reduceCtorEq, argEnv, eq_self, if_true, if_false]
theorem f105 (b : Base) (f : List Item) (hr : Right b f) (H : Heap) : ∃ Z, cal (evC cprog) false 105 [eBase b, eItems f] H = some (.ptr (H.length + 1) 0 6 0 0, H ++ Z) ∧ Bk b f (H.length + 1) (H ++ Z) := by
  obtain ⟨rv, X, h1, h2⟩ := o105 b f hr H
  refine ⟨_, h1, rv, .mk (by rw [at_app]; rfl), ?_⟩
  have := out_slat h2 (H ++ [bBase b, bBk b f rv, litB, lasB f b.types.length f.length]) (by simp) fun r hr => by obtain ⟨_, _, rfl⟩ := List.mem_map.1 hr; rfl
  simpa only [opH, List.append_assoc, List.cons_append, List.nil_append] using this
end Go.Proofs.YtbdpceigmnpoaaaGreatDoor.Code

/- call: what the book answers: on, when, fit, fits, satisfies, search. -/
set_option linter.unusedSimpArgs false
set_option linter.unusedVariables false
namespace Go.Proofs.YtbdpceigmnpoaaaGreatDoor.Code
open Go.Proofs.YtbdpceigmnpoaaaGreatDoor.Ev

theorem Bk.open {b : Base} {f : List Item} {p : Nat} {K : Heap} (h : Bk b f p K) : ∃ pv, (∀ X, (K ++ X)[p]? = some ⟨0, true, 149, 6, [[.str b.name, .int .i64 b.kind, eTys b.types, eSes b.indexes, eItems f, pv]]⟩) ∧ K[p]? = some ⟨0, true, 149, 6, [[.str b.name, .int .i64 b.kind, eTys b.types, eSes b.indexes, eItems f, pv]]⟩ ∧
    ∀ i : Nat, i < f.length → ∃ q, iaddrK 1 (some pv) (some (.int .i64 (i : Int))) = some q ∧ (∀ X, loadK false 1 (K ++ X) (some q) = some (.int .i64 (par b.types f i))) ∧ loadK false 1 K (some q) = some (.int .i64 (par b.types f i)) := by
  obtain ⟨pv, h1, h2⟩ := h
  refine ⟨pv, fun X => h1 X, h1.at, fun i hi => ?_⟩
  obtain ⟨q, g1, g2⟩ := slI h2 (parL_at (b := b) hi)
  exact ⟨q, g1, g2, by simpa using g2 []⟩
theorem Bk.app {b : Base} {f : List Item} {p : Nat} {K : Heap} (h : Bk b f p K) (X : Heap) : Bk b f p (K ++ X) := by
  obtain ⟨pv, h1, h2⟩ := h
  exact ⟨pv, fun Y => by rw [List.append_assoc]; exact h1 _, h2.app X⟩
theorem f69 (b : Base) (f : List Item) (hr : Right b f) (p : Nat) (K : Heap) (hk : Bk b f p K) (i : Int) (h1 : -1 ≤ i) (h2 : i < (f.length : Int)) (t : Int) : cal (evC cprog) false 69 [.ptr p 0 6 0 0, .int .i64 i, .int .i64 t] K = some (.int .i64 (onI b f i t), K) := by
  rw [cal_of at69]
  obtain ⟨pv, _, hp, hq⟩ := hk.open
  simp only [c69, evX, Int.reduceEq, Int.reduceLT, Int.reduceLE, Nat.reduceMul, Nat.reduceMod, evW, fn_eq, evR, Nat.reduceAdd, Nat.reduceLT, Nat.reduceLeDiff, reduceIte, Nat.reduceEqDiff, reduceCtorEq, argEnv, eq_self, if_true, if_false]
  generalize hz : itLim _ _ = z
  have L := loop_rule (σ := Int) (m := [0, 1, 2]) (env := fun x => [(0, .ptr p 0 6 0 0), (1, .int .i64 x), (2, .int .i64 t)]) (hp := fun _ => K)
    (P := fun _ r => ∃ T, r = (.exit 0, T, K) ∧ get T 1 = some (.int .i64 (onI b f i t)))
    (mu := fun x => (x + 1).toNat) (I := fun x => -1 ≤ x ∧ x < (f.length : Int) ∧ onI b f x t = onI b f i t) (evCode (evC cprog) itLim c69_l0) ?_ i _ ⟨h1, h2, rfl⟩ (by rfl) rfl z hz
  · obtain ⟨_, rfl, T, rfl, hT⟩ := L
    simp only [hT, evX, Int.reduceEq, Int.reduceLT, Int.reduceLE, Nat.reduceMul, Nat.reduceMod, evW, fn_eq, evR, Nat.reduceAdd, Nat.reduceLT, Nat.reduceLeDiff, reduceIte, Nat.reduceEqDiff, reduceCtorEq, argEnv, eq_self, if_true, if_false]
  · rintro x ⟨x1, x2, x3⟩ E hE
    by_cases h0 : 0 ≤ x
    · obtain ⟨j, rfl⟩ : ∃ j : Nat, x = (j : Int) := ⟨x.toNat, by omega⟩
      obtain ⟨y, hy⟩ : ∃ y, f[j]? = some y := ⟨_, List.getElem?_eq_getElem (by omega)⟩
      have ha := aItem hy
      have hty := typ_at hy
      obtain ⟨q, q1, _, q2⟩ := hq j (by omega)
      by_cases ht : y.type = t
      · have e := onI_self hr (show j < f.length by omega) (t := t) (by rw [hty, ht])
        simp only [c69_l0, nilck_ptr, hE, h0, hp, ha, rItem, ht, evX, Int.reduceEq, Int.reduceLT, Int.reduceLE, Nat.reduceMul, Nat.reduceMod, evW, fn_eq, evR, Nat.reduceAdd, Nat.reduceLT, Nat.reduceLeDiff, reduceIte, Nat.reduceEqDiff, reduceCtorEq, argEnv, eq_self, if_true, if_false]
        exact q_exit ⟨_, rfl, by rw [← x3, e]; rfl⟩
      · have e := onI_up (b := b) (show j < f.length by omega) (t := t) (by rw [hty]; exact ht)
        have hpl := par_lt b.types f j
        simp only [c69_l0, nilck_ptr, hE, h0, hp, ha, rItem, ht, q1, q2, evX, Int.reduceEq, Int.reduceLT, Int.reduceLE, Nat.reduceMul, Nat.reduceMod, evW, fn_eq, evR, Nat.reduceAdd, Nat.reduceLT, Nat.reduceLeDiff, reduceIte, Nat.reduceEqDiff, reduceCtorEq, argEnv, eq_self, if_true, if_false]
        exact q_next (par b.types f j) (by rfl) rfl ⟨hpl.1, by omega, by rw [← e]; exact x3⟩ (by omega) fun r h => h
    · have e : onI b f x t = -1 := onI_neg (by omega)
      have : x = -1 := by omega
      simp only [c69_l0, nilck_ptr, hE, h0, evX, Int.reduceEq, Int.reduceLT, Int.reduceLE, Nat.reduceMul, Nat.reduceMod, evW, fn_eq, evR, Nat.reduceAdd, Nat.reduceLT, Nat.reduceLeDiff, reduceIte, Nat.reduceEqDiff, reduceCtorEq, argEnv, eq_self, if_true, if_false]
      exact q_exit ⟨_, rfl, by rw [← x3, e, ← this]; rfl⟩
/-- the condition of an argument holds for an item -/
def whenB (b : Base) (f : List Item) (a : Ar) (i : Nat) : Bool := cndHold (fdsOf b.types (typ f (i : Int))) a.whn (dat f (i : Int))
theorem item_fits {b : Base} {f : List Item} (hr : Right b f) {i : Nat} {x : Item} {k : Nat} (hx : f[i]? = some x) (hk : x.type = (k : Int)) : fits b.types ⟨(k : Int), x.data⟩ = true := by
  have := hr.fits i x hx
  rw [← hk]; exact this
theorem f162 (b : Base) (f : List Item) (hr : Right b f) (p : Nat) (K : Heap) (hk : Bk b f p K) (a : Ar) (ha : a.Ok) (i : Nat) (hi : i < f.length) (hc : cndOk (fdsOf b.types (typ f (i : Int))) a.whn = true) : cal (evC cprog) false 162 [.ptr p 0 6 0 0, .agg (rAr a), .int .i64 (i : Int)] K = some (.bool (whenB b f a i), K) := by
  rw [cal_of at162]
  obtain ⟨pv, hp, _, _⟩ := hk.open
  obtain ⟨x, k, t, hx, hk', hkl, ht, hty, _⟩ := hr.item hi
  have hax := aItem hx
  have e1 : typ f (i : Int) = (k : Int) := by rw [typ_at hx, hk']
  have e2 := dat_at hx
  rw [e1, fdsOf_at ht] at hc
  have h182 := f182 b hr.base hr.valid k t ht hty a.whn ha.whn ha.gr hc x.data (item_fits hr hx hk')
  have e : whenB b f a i = cndHold t.fields a.whn x.data := by unfold whenB; rw [e1, fdsOf_at ht, e2]
  rw [e]
  simp only [eBase, bEr] at h182
  simp only [c162, nilck_ptr, rAr, hp, hax, rItem, hk', h182, evX, Int.reduceEq, Int.reduceLT, Int.reduceLE, Nat.reduceMul, Nat.reduceMod, evW, fn_eq, evR, Nat.reduceAdd, Nat.reduceLT, Nat.reduceLeDiff, reduceIte, Nat.reduceEqDiff, reduceCtorEq, argEnv, eq_self, if_true, if_false]
/-- a later twin for which the condition holds -/
def twinAt (b : Base) (f : List Item) (a : Ar) (i k : Nat) : Bool := decide (typ f (k : Int) = typ f (i : Int)) && decide (par b.types f k = par b.types f i) && whenB b f a k
noncomputable def lastB (b : Base) (f : List Item) (a : Ar) (i : Nat) : Bool := tell (∀ k : Nat, i < k → k < f.length → twinAt b f a i k = false)
noncomputable def fitB (b : Base) (f : List Item) (a : Ar) (i : Nat) : Bool := whenB b f a i && (!hasC a 76 || lastB b f a i)
set_option maxHeartbeats 4000000 in
theorem l137 (b : Base) (f : List Item) (hr : Right b f) (p : Nat) (K : Heap) (hk : Bk b f p K) (a : Ar) (ha : a.Ok) (i : Nat) (hi : i < f.length) (hc : cndOk (fdsOf b.types (typ f (i : Int))) a.whn = true) (n : Nat) (hn : Sits K n ⟨0, true, 82, 3, [rAr a]⟩) (st : St)
    (hE : keepEnv st.1 [0, 2, 4, 7] = [(0, .ptr p 0 6 0 0), (2, .int .i64 (i : Int)), (4, .ptr n 0 3 0 0), (7, .int .i64 ((i + 1 : Nat) : Int))]) (hH : st.2 = K) (z : Option (CX × St)) (hz : itLim (evCode (evC cprog) itLim c137_l0) st = z) :
    (lastB b f a i = true ∧ ∃ T, z = some (.exit 0, T, K)) ∨ (lastB b f a i = false ∧ ∃ T, z = some (.ret, T, K) ∧ get T 6 = some (.bool false)) := by
  obtain ⟨pv, _, hp, hq⟩ := hk.open
  have hn0 := hn.at
  simp only [rAr] at hn0
  have hfl := hr.len
  have hlen := (sItems [] f).len
  simp only [List.length_map] at hlen
  obtain ⟨x, hx⟩ : ∃ x, f[i]? = some x := ⟨_, List.getElem?_eq_getElem hi⟩
  have hax := aItem hx
  obtain ⟨qi, qi1, _, qi2⟩ := hq i hi
  have L := loop_rule (σ := Nat) (m := [0, 2, 4, 7]) (env := fun k => [(0, .ptr p 0 6 0 0), (2, .int .i64 (i : Int)), (4, .ptr n 0 3 0 0), (7, .int .i64 (k : Int))]) (hp := fun _ => K)
    (P := fun _ r => (lastB b f a i = true ∧ ∃ T, r = (.exit 0, T, K)) ∨ (lastB b f a i = false ∧ ∃ T, r = (.ret, T, K) ∧ get T 6 = some (.bool false)))
    (mu := fun k => f.length - k) (I := fun k => i < k ∧ k ≤ f.length ∧ ∀ j : Nat, i < j → j < k → twinAt b f a i j = false) (evCode (evC cprog) itLim c137_l0) ?_ (i + 1) st ⟨by omega, by omega, fun j h1 h2 => by omega⟩ hE hH z hz
  · obtain ⟨r, rfl, ⟨h, T, rfl⟩ | ⟨h, T, rfl, hT⟩⟩ := L
    · exact .inl ⟨h, T, rfl⟩
    · exact .inr ⟨h, T, rfl, hT⟩
  · rintro k ⟨k1, k2, k3⟩ E hE
    by_cases hlt : k < f.length
    · have hkl : (k : Int) < (f.length : Int) := by omega
      obtain ⟨y, hy⟩ : ∃ y, f[k]? = some y := ⟨_, List.getElem?_eq_getElem hlt⟩
      have hay := aItem hy
      obtain ⟨qk, qk1, _, qk2⟩ := hq k hlt
      have hw := wrapS hlt (by omega)
      have next : twinAt b f a i k = false → ∀ j : Nat, i < j → j < k + 1 → twinAt b f a i j = false := fun h j j1 j2 => by
        by_cases hj : j < k
        · exact k3 j j1 hj
        · have : j = k := by omega
          rw [this]; exact h
      have et : twinAt b f a i k = (decide (y.type = x.type) && decide (par b.types f k = par b.types f i) && whenB b f a k) := by unfold twinAt; rw [typ_at hx, typ_at hy]
      by_cases c1 : y.type = x.type
      · by_cases c2 : par b.types f k = par b.types f i
        · have h162 := f162 b f hr p K hk a ha k hlt (by rw [typ_at hy, c1, ← typ_at hx]; exact hc)
          simp only [rAr] at h162
          cases hwn : whenB b f a k with
          | true =>
            rw [hwn] at h162
            have e : lastB b f a i = false := tell_neg fun h => by
              have := h k k1 hlt
              rw [et, c1, c2, hwn] at this
              simp at this
            simp only [c137_l0, nilck_ptr, hE, hkl, hlen, hp, hn0, hax, hay, rItem, c1, qi1, qi2, qk1, qk2, c2, h162, evX, Int.reduceEq, Int.reduceLT, Int.reduceLE, Nat.reduceMul, Nat.reduceMod, evW, fn_eq, evR, Nat.reduceAdd, Nat.reduceLT, Nat.reduceLeDiff, reduceIte, Nat.reduceEqDiff, reduceCtorEq, argEnv, eq_self, if_true, if_false]
            exact q_ret (.inr ⟨e, _, rfl, rfl⟩)
          | false =>
            rw [hwn] at h162
            simp only [c137_l0, nilck_ptr, hE, hkl, hlen, hp, hn0, hax, hay, rItem, c1, qi1, qi2, qk1, qk2, c2, h162, hw, evX, Int.reduceEq, Int.reduceLT, Int.reduceLE, Nat.reduceMul, Nat.reduceMod, evW, fn_eq, evR, Nat.reduceAdd, Nat.reduceLT, Nat.reduceLeDiff, reduceIte, Nat.reduceEqDiff, reduceCtorEq, argEnv, eq_self, if_true, if_false]
            exact q_next (k + 1) (by rfl) rfl ⟨by omega, hlt, next (by rw [et, hwn, Bool.and_false])⟩ (by omega) fun r h => h
        · simp only [c137_l0, nilck_ptr, hE, hkl, hlen, hp, hn0, hax, hay, rItem, c1, qi1, qi2, qk1, qk2, c2, hw, evX, Int.reduceEq, Int.reduceLT, Int.reduceLE, Nat.reduceMul, Nat.reduceMod, evW, fn_eq, evR, Nat.reduceAdd, Nat.reduceLT, Nat.reduceLeDiff, reduceIte, Nat.reduceEqDiff, reduceCtorEq, argEnv, eq_self, if_true, if_false]
          exact q_next (k + 1) (by rfl) rfl ⟨by omega, hlt, next (by rw [et, decide_eq_false c2]; simp)⟩ (by omega) fun r h => h
      · simp only [c137_l0, nilck_ptr, hE, hkl, hlen, hp, hn0, hax, hay, rItem, c1, hw, evX, Int.reduceEq, Int.reduceLT, Int.reduceLE, Nat.reduceMul, Nat.reduceMod, evW, fn_eq, evR, Nat.reduceAdd, Nat.reduceLT, Nat.reduceLeDiff, reduceIte, Nat.reduceEqDiff, reduceCtorEq, argEnv, eq_self, if_true, if_false]
        exact q_next (k + 1) (by rfl) rfl ⟨by omega, hlt, next (by rw [et, decide_eq_false c1]; simp)⟩ (by omega) fun r h => h
    · have hkl : ¬ (k : Int) < (f.length : Int) := by omega
      simp only [c137_l0, nilck_ptr, hE, hkl, hlen, hp, evX, Int.reduceEq, Int.reduceLT, Int.reduceLE, Nat.reduceMul, Nat.reduceMod, evW, fn_eq, evR, Nat.reduceAdd, Nat.reduceLT, Nat.reduceLeDiff, reduceIte, Nat.reduceEqDiff, reduceCtorEq, argEnv, eq_self, if_true, if_false]
      exact q_exit (.inl ⟨tell_pos fun j j1 j2 => k3 j j1 (by omega), _, rfl⟩)
theorem f137 (b : Base) (f : List Item) (hr : Right b f) (p : Nat) (K : Heap) (hk : Bk b f p K) (a : Ar) (ha : a.Ok) (i : Nat) (hi : i < f.length) (hc : cndOk (fdsOf b.types (typ f (i : Int))) a.whn = true) : cal (evC cprog) false 137 [.ptr p 0 6 0 0, .agg (rAr a), .int .i64 (i : Int)] K = some (.bool (fitB b f a i), K) := by
  rw [cal_of at137]
  have hfl := hr.len
  have h162 := f162 b f hr p (K ++ [⟨0, true, 82, 3, [rAr a]⟩]) (hk.app _) a ha i hi hc
  have h111 : ∀ H, cal (evC cprog) false 111 [.agg (rAr a), .int .u8 76] H = some (.bool (hasC a 76), H) := fun H => f111 a 76 H
  have hw := wrapS hi (by omega)
  simp only [rAr] at h162 h111
  cases hwn : whenB b f a i with
  | false =>
    rw [hwn] at h162
    simp only [c137, nilck_ptr, rAr, h162, evX, Int.reduceEq, Int.reduceLT, Int.reduceLE, Nat.reduceMul, Nat.reduceMod, evW, fn_eq, evR, Nat.reduceAdd, Nat.reduceLT, Nat.reduceLeDiff, reduceIte, Nat.reduceEqDiff, reduceCtorEq, argEnv, eq_self, if_true, if_false]
    simp [fitB, hwn]
  | true =>
    rw [hwn] at h162
    cases hL : hasC a 76 with
    | false =>
      rw [hL] at h111
      simp only [c137, nilck_ptr, rAr, h162, h111, evX, Int.reduceEq, Int.reduceLT, Int.reduceLE, Nat.reduceMul, Nat.reduceMod, evW, fn_eq, evR, Nat.reduceAdd, Nat.reduceLT, Nat.reduceLeDiff, reduceIte, Nat.reduceEqDiff, reduceCtorEq, argEnv, eq_self, if_true, if_false]
      simp [fitB, hwn, hL]
    | true =>
      rw [hL] at h111
      simp only [c137, nilck_ptr, rAr, h162, h111, hw, evX, Int.reduceEq, Int.reduceLT, Int.reduceLE, Nat.reduceMul, Nat.reduceMod, evW, fn_eq, evR, Nat.reduceAdd, Nat.reduceLT, Nat.reduceLeDiff, reduceIte, Nat.reduceEqDiff, reduceCtorEq, argEnv, eq_self, if_true, if_false]
      generalize hz : itLim _ _ = z
      rcases l137 b f hr p (K ++ [⟨0, true, 82, 3, [rAr a]⟩]) (hk.app _) a ha i hi hc K.length (.mk (by simp)) _ (by rfl) (by simp [rAr]) z hz with ⟨h, T, rfl⟩ | ⟨h, T, rfl, hT⟩
      · simp only [evX, Int.reduceEq, Int.reduceLT, Int.reduceLE, Nat.reduceMul, Nat.reduceMod, evW, fn_eq, evR, Nat.reduceAdd, Nat.reduceLT, Nat.reduceLeDiff, reduceIte, Nat.reduceEqDiff, reduceCtorEq, argEnv, eq_self, if_true, if_false]
        simp [fitB, hwn, hL, h]
      · simp only [hT, evX, Int.reduceEq, Int.reduceLT, Int.reduceLE, Nat.reduceMul, Nat.reduceMod, evW, fn_eq, evR, Nat.reduceAdd, Nat.reduceLT, Nat.reduceLeDiff, reduceIte, Nat.reduceEqDiff, reduceCtorEq, argEnv, eq_self, if_true, if_false]
        simp [fitB, hwn, hL, h]
end Go.Proofs.YtbdpceigmnpoaaaGreatDoor.Code

/- call: fits, satisfies and search of the book. -/
set_option linter.unusedSimpArgs false
set_option linter.unusedVariables false
namespace Go.Proofs.YtbdpceigmnpoaaaGreatDoor.Code
open Go.Proofs.YtbdpceigmnpoaaaGreatDoor.Ev

/-- a right argument -/
structure ArOk (ts : List Ty) (a : Ar) : Prop where
  ok : a.Ok
  ty : 0 ≤ tyIx ts a.seg
  cnd : cndOk (fdsOf ts (tyIx ts a.seg)) a.whn = true
theorem rise_ok {ts : List Ty} {l : List Ar} {ab : Int} (h : Rise ts ab l) (hok : ∀ a ∈ l, a.Ok) : ∀ a ∈ l, ArOk ts a := fun a ha => by
  obtain ⟨i, hi⟩ := List.getElem?_of_mem ha
  obtain ⟨ab', hs⟩ := rise_at h hi
  obtain ⟨_, h2, _, h4⟩ := stat_well hs
  exact ⟨hok a ha, h2, h4⟩
noncomputable def argB (b : Base) (f : List Item) (i : Nat) (a : Ar) : Bool := decide (0 ≤ onI b f (i : Int) (tyIx b.types a.seg)) && fitB b f a (onI b f (i : Int) (tyIx b.types a.seg)).toNat
theorem onI_in {b : Base} {f : List Item} {i : Nat} (hi : i < f.length) {t : Int} (h : 0 ≤ onI b f (i : Int) t) : ∃ j : Nat, onI b f (i : Int) t = (j : Int) ∧ j ≤ i ∧ j < f.length ∧ typ f (j : Int) = t := by
  have h1 := (onI_lt (b := b) (f := f) (i := i) (t := t)).2
  have h2 := onI_typ (b := b) h
  refine ⟨(onI b f (i : Int) t).toNat, by omega, by omega, by omega, ?_⟩
  rw [show (((onI b f (i : Int) t).toNat : Nat) : Int) = onI b f (i : Int) t by omega]; exact h2
set_option maxHeartbeats 4000000 in
theorem f106 (b : Base) (f : List Item) (hr : Right b f) (p : Nat) (K : Heap) (hk : Bk b f p K) (l : List Ar) (hl : l.length < 9223372036854775807) (hok : ∀ a ∈ l, ArOk b.types a) (T : List Int) (hT : ∀ (k : Nat) (a : Ar), l[k]? = some a → T[k]? = some (tyIx b.types a.seg)) (i : Nat) (hi : i < f.length) :
    cal (evC cprog) false 106 [.ptr p 0 6 0 0, eArs l, eIs T, .int .i64 (i : Int)] K = some (.bool (l.all (argB b f i)), K) := by
  rw [cal_of at106]
  have hlen := (sArs [] l).len
  simp only [List.length_map] at hlen
  simp only [c106, hlen, evX, Int.reduceEq, Int.reduceLT, Int.reduceLE, Nat.reduceMul, Nat.reduceMod, evW, fn_eq, evR, Nat.reduceAdd, Nat.reduceLT, Nat.reduceLeDiff, reduceIte, Nat.reduceEqDiff, reduceCtorEq, argEnv, eq_self, if_true, if_false]
  generalize hz : itLim _ _ = z
  have L := all_rule l (argB b f i) [0, 2, 3, 12, 13, 14] (fun k => [(0, .ptr p 0 6 0 0), (2, eIs T), (3, .int .i64 (i : Int)), (12, eArs l), (13, .int .i64 (l.length : Int)), (14, .int .i64 (k : Int))]) K [] (evCode (evC cprog) itLim c106_l0) (fun c T => c = .exit 0) (fun c T => c = .ret ∧ get T 8 = some (.bool false))
    (fun k a hx E G hE => by
      have hlt : k < l.length := (List.getElem?_eq_some_iff.1 hx).1
      have hkl : (k : Int) < (l.length : Int) := by omega
      have haa := aAr hx
      have haT := aI (hT k a hx)
      have hw := wrapS hlt hl
      obtain ⟨o1, o2, o3⟩ := hok a (List.mem_of_getElem? hx)
      have h69 := f69 b f hr p (K ++ (G ++ [⟨0, true, 82, 3, [rAr a]⟩])) (hk.app _) (i : Int) (by omega) (by omega) (tyIx b.types a.seg)
      simp only [rAr] at h69
      by_cases h0 : 0 ≤ onI b f (i : Int) (tyIx b.types a.seg)
      · obtain ⟨j, j1, j2, j3, j4⟩ := onI_in hi h0
        have n0 : ¬ (j : Int) < 0 := by omega
        rw [j1] at h69
        have h137 := f137 b f hr p (K ++ (G ++ [⟨0, true, 82, 3, [rAr a]⟩])) (hk.app _) a o1 j j3 (by rw [j4]; exact o3)
        have e : argB b f i a = fitB b f a j := by unfold argB; rw [decide_eq_true h0, j1, Int.toNat_natCast, Bool.true_and]
        rw [e]
        simp only [rAr] at h137
        cases hf : fitB b f a j with
        | true =>
          rw [hf] at h137
          simp only [c106_l0, hE, hkl, haa, rAr, haT, rI, h69, n0, h137, hw, evX, Int.reduceEq, Int.reduceLT, Int.reduceLE, Nat.reduceMul, Nat.reduceMod, evW, fn_eq, evR, Nat.reduceAdd, Nat.reduceLT, Nat.reduceLeDiff, reduceIte, Nat.reduceEqDiff, reduceCtorEq, argEnv, eq_self, if_true, if_false]
          exact Sc.next rfl (by rfl)
        | false =>
          rw [hf] at h137
          simp only [c106_l0, hE, hkl, haa, rAr, haT, rI, h69, n0, h137, evX, Int.reduceEq, Int.reduceLT, Int.reduceLE, Nat.reduceMul, Nat.reduceMod, evW, fn_eq, evR, Nat.reduceAdd, Nat.reduceLT, Nat.reduceLeDiff, reduceIte, Nat.reduceEqDiff, reduceCtorEq, argEnv, eq_self, if_true, if_false]
          exact Sc.ret rfl ⟨rfl, rfl⟩
      · have n0 : onI b f (i : Int) (tyIx b.types a.seg) < 0 := by omega
        have e : argB b f i a = false := by unfold argB; rw [decide_eq_false h0, Bool.false_and]
        rw [e]
        simp only [c106_l0, hE, hkl, haa, rAr, haT, rI, h69, n0, evX, Int.reduceEq, Int.reduceLT, Int.reduceLE, Nat.reduceMul, Nat.reduceMod, evW, fn_eq, evR, Nat.reduceAdd, Nat.reduceLT, Nat.reduceLeDiff, reduceIte, Nat.reduceEqDiff, reduceCtorEq, argEnv, eq_self, if_true, if_false]
        exact Sc.ret rfl ⟨rfl, rfl⟩)
    (fun E G hE => by
      simp only [c106_l0, hE, Int.lt_irrefl, evX, Int.reduceEq, Int.reduceLT, Int.reduceLE, Nat.reduceMul, Nat.reduceMod, evW, fn_eq, evR, Nat.reduceAdd, Nat.reduceLT, Nat.reduceLeDiff, reduceIte, Nat.reduceEqDiff, reduceCtorEq, argEnv, eq_self, if_true, if_false]
      exact .exit (K := []) rfl) _ [] (by rfl) (by simp) z hz
  rcases L with ⟨ha, c, T, G, rfl, _, rfl⟩ | ⟨ha, c, T, G, rfl, _, rfl, hT⟩
  · rw [ha]
    simp only [evX, Int.reduceEq, Int.reduceLT, Int.reduceLE, Nat.reduceMul, Nat.reduceMod, evW, fn_eq, evR, Nat.reduceAdd, Nat.reduceLT, Nat.reduceLeDiff, reduceIte, Nat.reduceEqDiff, reduceCtorEq, argEnv, eq_self, if_true, if_false]
  · rw [ha]
    simp only [hT, evX, Int.reduceEq, Int.reduceLT, Int.reduceLE, Nat.reduceMul, Nat.reduceMod, evW, fn_eq, evR, Nat.reduceAdd, Nat.reduceLT, Nat.reduceLeDiff, reduceIte, Nat.reduceEqDiff, reduceCtorEq, argEnv, eq_self, if_true, if_false]
/-- the type of the last argument is that of an item -/
def lastT (ts : List Ty) (f : List Item) (l : List Ar) (i : Nat) : Bool := match l.getLast? with
  | some a => decide (typ f (i : Int) = tyIx ts a.seg)
  | none => true
noncomputable def satB (b : Base) (f : List Item) (l : List Ar) (i : Nat) : Bool := lastT b.types f l i && l.all (argB b f i)
theorem tysA_at {ts : List Ty} {l : List Ar} {k : Nat} {a : Ar} (h : l[k]? = some a) : (tysA ts l)[k]? = some (tyIx ts a.seg) := by simp [tysA, h]
theorem f62 (b : Base) (f : List Item) (hr : Right b f) (p : Nat) (K : Heap) (hk : Bk b f p K) (l : List Ar) (hl : l.length < 9223372036854775807) (hok : ∀ a ∈ l, ArOk b.types a) (i : Nat) (hi : i < f.length) :
    cal (evC cprog) false 62 [.ptr p 0 6 0 0, eArs l, eIs (tysA b.types l), .int .i64 (i : Int)] K = some (.bool (satB b f l i), K) := by
  rw [cal_of at62]
  have h106 := f106 b f hr p K hk l hl hok (tysA b.types l) (fun k a h => tysA_at h) i hi
  have hlen := (sIs [] (tysA b.types l)).len
  have etl : (tysA b.types l).length = l.length := by simp [tysA]
  rw [List.length_map, etl] at hlen
  have hca : (eArs l).isTup = false := rfl
  by_cases h0 : l = []
  · subst h0
    have hn : ¬ (0 : Int) < 0 := by decide
    simp only [List.length_nil, Int.natCast_zero] at hlen
    simp only [c62, nilck_ptr, hlen, hn, h106, Int.lt_irrefl, evX, Int.reduceEq, Int.reduceLT, Int.reduceLE, Nat.reduceMul, Nat.reduceMod, evW, fn_eq, evR, Nat.reduceAdd, Nat.reduceLT, Nat.reduceLeDiff, reduceIte, Nat.reduceEqDiff, reduceCtorEq, argEnv, eq_self, if_true, if_false]
    simp [satB, lastT]
  · obtain ⟨a, ha⟩ : ∃ a, l.getLast? = some a := by
      cases h : l.getLast? with
      | none => exact absurd (List.getLast?_eq_none_iff.1 h) h0
      | some a => exact ⟨a, rfl⟩
    have hpos := List.length_pos_iff.2 h0
    have hat : l[l.length - 1]? = some a := by rw [← List.getLast?_eq_getElem?]; exact ha
    have hn : (0 : Int) < (l.length : Int) := by omega
    have hw : IntKind.i64.wrap ((l.length : Int) - 1) = ((l.length - 1 : Nat) : Int) := by rw [wrap_i64 (by omega) (by omega)]; omega
    have haT := aI (tysA_at (ts := b.types) hat)
    obtain ⟨pv, _, hp, _⟩ := hk.open
    obtain ⟨x, hx⟩ : ∃ x, f[i]? = some x := ⟨_, List.getElem?_eq_getElem hi⟩
    have hax := aItem hx
    have e : satB b f l i = (decide (x.type = tyIx b.types a.seg) && l.all (argB b f i)) := by simp only [satB, lastT, ha, typ_at hx]
    rw [e]
    by_cases ht : x.type = tyIx b.types a.seg
    · simp only [c62, nilck_ptr, hlen, hn, hp, hax, rItem, hw, haT, rI, ht, h106, evX, Int.reduceEq, Int.reduceLT, Int.reduceLE, Nat.reduceMul, Nat.reduceMod, evW, fn_eq, evR, Nat.reduceAdd, Nat.reduceLT, Nat.reduceLeDiff, reduceIte, Nat.reduceEqDiff, reduceCtorEq, argEnv, eq_self, if_true, if_false]
    · simp only [c62, nilck_ptr, hlen, hn, hp, hax, rItem, hw, haT, rI, ht, evX, Int.reduceEq, Int.reduceLT, Int.reduceLE, Nat.reduceMul, Nat.reduceMod, evW, fn_eq, evR, Nat.reduceAdd, Nat.reduceLT, Nat.reduceLeDiff, reduceIte, Nat.reduceEqDiff, reduceCtorEq, argEnv, eq_self, if_true, if_false]
/-- the first number from i on, of so many, for which something holds, or -1 -/
def srch (p : Nat → Bool) : Nat → Nat → Int
  | 0, _ => -1
  | n + 1, i => if p i = true then (i : Int) else srch p n (i + 1)
theorem srch_cases (p : Nat → Bool) : ∀ n i : Nat, (srch p n i = -1 ∧ ∀ k, i ≤ k → k < i + n → p k = false) ∨ ∃ j : Nat, srch p n i = (j : Int) ∧ i ≤ j ∧ j < i + n ∧ p j = true ∧ ∀ k, i ≤ k → k < j → p k = false
  | 0, i => .inl ⟨rfl, fun k h1 h2 => by omega⟩
  | n + 1, i => by
    rw [srch]
    cases hp : p i with
    | true => exact .inr ⟨i, by simp, by omega, by omega, hp, fun k h1 h2 => by omega⟩
    | false =>
      simp only [Bool.false_eq_true, if_false]
      rcases srch_cases p n (i + 1) with ⟨h1, h2⟩ | ⟨j, h1, h2, h3, h4, h5⟩
      · refine .inl ⟨h1, fun k k1 k2 => ?_⟩
        by_cases hk : k = i
        · rw [hk]; exact hp
        · exact h2 k (by omega) (by omega)
      · refine .inr ⟨j, h1, by omega, by omega, h4, fun k k1 k2 => ?_⟩
        by_cases hk : k = i
        · rw [hk]; exact hp
        · exact h5 k (by omega) k2
noncomputable def srchB (b : Base) (f : List Item) (l : List Ar) (i j : Int) : Int := srch (satB b f l) (j - i).toNat i.toNat
theorem f65 (b : Base) (f : List Item) (hr : Right b f) (p : Nat) (K : Heap) (hk : Bk b f p K) (l : List Ar) (hl : l.length < 9223372036854775807) (hok : ∀ a ∈ l, ArOk b.types a) (i j : Int) (hi : 0 ≤ i) (hj : j ≤ (f.length : Int)) :
    cal (evC cprog) false 65 [.ptr p 0 6 0 0, eArs l, eIs (tysA b.types l), .int .i64 i, .int .i64 j] K = some (.int .i64 (srchB b f l i j), K) := by
  rw [cal_of at65]
  have hfl := hr.len
  simp only [c65, evX, Int.reduceEq, Int.reduceLT, Int.reduceLE, Nat.reduceMul, Nat.reduceMod, evW, fn_eq, evR, Nat.reduceAdd, Nat.reduceLT, Nat.reduceLeDiff, reduceIte, Nat.reduceEqDiff, reduceCtorEq, argEnv, eq_self, if_true, if_false]
  generalize hz : itLim _ _ = z
  have L := loop_rule (σ := Nat) (m := [0, 1, 2, 4, 11]) (env := fun k => [(0, .ptr p 0 6 0 0), (1, eArs l), (2, eIs (tysA b.types l)), (4, .int .i64 j), (11, .int .i64 (k : Int))]) (hp := fun _ => K)
    (P := fun _ r => r.2.2 = K ∧ ((r.1 = .exit 0 ∧ srchB b f l i j = -1) ∨ (r.1 = .ret ∧ get r.2.1 10 = some (.int .i64 (srchB b f l i j)))))
    (mu := fun k => (j - (k : Int)).toNat) (I := fun k => srchB b f l i j = srch (satB b f l) (j - (k : Int)).toNat k) (evCode (evC cprog) itLim c65_l0) ?_ i.toNat _ (by unfold srchB; rw [show ((i.toNat : Nat) : Int) = i by omega]) (by rw [show ((i.toNat : Nat) : Int) = i by omega]; rfl) rfl z hz
  · obtain ⟨⟨e, T, H'⟩, rfl, hH, hP⟩ := L
    simp only at hH hP
    subst hH
    rcases hP with ⟨rfl, h⟩ | ⟨rfl, hT⟩
    · rw [h]
      simp only [evX, Int.reduceEq, Int.reduceLT, Int.reduceLE, Nat.reduceMul, Nat.reduceMod, evW, fn_eq, evR, Nat.reduceAdd, Nat.reduceLT, Nat.reduceLeDiff, reduceIte, Nat.reduceEqDiff, reduceCtorEq, argEnv, eq_self, if_true, if_false]
    · simp only [hT, evX, Int.reduceEq, Int.reduceLT, Int.reduceLE, Nat.reduceMul, Nat.reduceMod, evW, fn_eq, evR, Nat.reduceAdd, Nat.reduceLT, Nat.reduceLeDiff, reduceIte, Nat.reduceEqDiff, reduceCtorEq, argEnv, eq_self, if_true, if_false]
  · intro k hI E hE
    by_cases hlt : (k : Int) < j
    · have hw := wrapS (i := k) (n := 1000) (by omega) (by omega)
      have h62 := f62 b f hr p K hk l hl hok k (by omega)
      rw [show (j - (k : Int)).toNat = (j - ((k + 1 : Nat) : Int)).toNat + 1 by omega, srch] at hI
      cases hs : satB b f l k with
      | true =>
        rw [hs] at h62 hI
        rw [if_pos rfl] at hI
        simp only [c65_l0, hE, hlt, h62, evX, Int.reduceEq, Int.reduceLT, Int.reduceLE, Nat.reduceMul, Nat.reduceMod, evW, fn_eq, evR, Nat.reduceAdd, Nat.reduceLT, Nat.reduceLeDiff, reduceIte, Nat.reduceEqDiff, reduceCtorEq, argEnv, eq_self, if_true, if_false]
        exact q_ret ⟨rfl, .inr ⟨rfl, by rw [hI]; rfl⟩⟩
      | false =>
        rw [hs] at h62 hI
        rw [if_neg (by decide)] at hI
        simp only [c65_l0, hE, hlt, h62, hw, evX, Int.reduceEq, Int.reduceLT, Int.reduceLE, Nat.reduceMul, Nat.reduceMod, evW, fn_eq, evR, Nat.reduceAdd, Nat.reduceLT, Nat.reduceLeDiff, reduceIte, Nat.reduceEqDiff, reduceCtorEq, argEnv, eq_self, if_true, if_false]
        exact q_next (k + 1) (by rfl) rfl hI (by omega) fun r h => h
    · rw [show (j - (k : Int)).toNat = 0 by omega, srch] at hI
      simp only [c65_l0, hE, hlt, evX, Int.reduceEq, Int.reduceLT, Int.reduceLE, Nat.reduceMul, Nat.reduceMod, evW, fn_eq, evR, Nat.reduceAdd, Nat.reduceLT, Nat.reduceLeDiff, reduceIte, Nat.reduceEqDiff, reduceCtorEq, argEnv, eq_self, if_true, if_false]
      exact q_exit ⟨rfl, .inl ⟨rfl, hI⟩⟩
end Go.Proofs.YtbdpceigmnpoaaaGreatDoor.Code

/- call: paths and answers of the book. -/
set_option linter.unusedSimpArgs false
set_option linter.unusedVariables false
namespace Go.Proofs.YtbdpceigmnpoaaaGreatDoor.Code
open Go.Proofs.YtbdpceigmnpoaaaGreatDoor.Ev

theorem f108 (b : Base) (f : List Item) (hr : Right b f) (p : Nat) (K : Heap) (hk : Bk b f p K) (i : Nat) (hi : i < f.length) : cal (evC cprog) true 108 [.ptr p 0 6 0 0, .int .i64 (i : Int)] K = some (eIs (pth b.types f i), K) := by
  rw [cal_of at108]
  have hfl := hr.len
  obtain ⟨pv, hp, _, hq⟩ := hk.open
  have kt : ∀ Z, (K ++ Z).take K.length = K := fun Z => by simp
  have L := fun (st : St) (hE : keepEnv st.1 [0, 1, 5] = [(0, .ptr p 0 6 0 0), (1, .int .i64 (i : Int)), (5, .nils)]) (hH : st.2 = K) (z : Option (CX × St)) (hz : itLim (evCode (evC cprog) itLim c108_l0) st = z) =>
    loop_rule (σ := Int × List Int × Heap × AV) (m := [0, 1, 5]) (env := fun s => [(0, .ptr p 0 6 0 0), (1, .int .i64 s.1), (5, s.2.2.2)]) (hp := fun s => K ++ s.2.2.1)
    (P := fun _ r => ∃ T X rv, r = (.exit 0, T, K ++ X) ∧ keepEnv T [5] = [(5, rv)] ∧ Out K.length 1 3 X rv ((pth b.types f i).reverse.map rI))
    (mu := fun s => (s.1 + 1).toNat) (I := fun s => Walks b f i s.1 s.2.1 ∧ Out K.length 1 3 s.2.2.1 s.2.2.2 (s.2.1.reverse.map rI)) (evCode (evC cprog) itLim c108_l0) (by
      intro ⟨c, acc, X, rv⟩ ⟨w, hO⟩ E hE
      simp only at w hO hE ⊢
      have h1 := w.lo
      have h2 := w.hi
      have h3 := w.len
      by_cases hc : 0 ≤ c
      · obtain ⟨c, rfl⟩ : ∃ k : Nat, c = (k : Int) := ⟨c.toNat, by omega⟩
        obtain ⟨q, q1, q2, _⟩ := hq c (by omega)
        have w2 := w.step
        obtain ⟨rv1, X1, a1, t1, O1⟩ := (hO.more [⟨0, true, 3, 1, [[.int .i64 (c : Int)]]⟩]).app K rfl 8 (.ref (K.length + X.length) 0 1 0 1) [rI (c : Int)] (by simp [srcRows, rowsOf, curBlk, ← List.append_assoc, rI]) (by simp [rI]) (by simp [reach]; omega)
        have hra : acc.reverse.map rI ++ [rI (c : Int)] = ((c : Int) :: acc).reverse.map rI := by simp
        rw [hra] at O1
        have hpl := par_lt b.types f c
        simp only [c108_l0, nilck_ptr, hE, hc, hp, q1, q2, a1, t1, evX, Int.reduceEq, Int.reduceLT, Int.reduceLE, Nat.reduceMul, Nat.reduceMod, evW, fn_eq, evR, Nat.reduceAdd, Nat.reduceLT, Nat.reduceLeDiff, reduceIte, Nat.reduceEqDiff, reduceCtorEq, argEnv, eq_self, if_true, if_false]
        exact q_next (par b.types f c, (c : Int) :: acc, X1, rv1) (by rfl) rfl ⟨w2, O1⟩ (by simp only; omega) fun r h => h
      · simp only [c108_l0, nilck_ptr, hE, hc, evX, Int.reduceEq, Int.reduceLT, Int.reduceLE, Nat.reduceMul, Nat.reduceMod, evW, fn_eq, evR, Nat.reduceAdd, Nat.reduceLT, Nat.reduceLeDiff, reduceIte, Nat.reduceEqDiff, reduceCtorEq, argEnv, eq_self, if_true, if_false]
        rw [w.last (by omega)] at hO
        exact q_exit ⟨_, X, rv, rfl, by rfl, hO⟩) ((i : Int), [], [], .nils) st ⟨⟨by omega, by omega, by rw [pthI_nat, List.append_nil], by simp; omega⟩, .nils ..⟩ hE (by simpa using hH) z hz
  simp only [c108, evX, Int.reduceEq, Int.reduceLT, Int.reduceLE, Nat.reduceMul, Nat.reduceMod, evW, fn_eq, evR, Nat.reduceAdd, Nat.reduceLT, Nat.reduceLeDiff, reduceIte, Nat.reduceEqDiff, reduceCtorEq, argEnv, eq_self, if_true, if_false]
  generalize hz : itLim _ _ = z
  obtain ⟨_, rfl, T, X, rv, rfl, hT, hO⟩ := L _ (by rfl) rfl z hz
  clear hz L
  have hne : pth b.types f i ≠ [] := fun e => by have := pth_self b.types f i; rw [e] at this; cases this
  have hpl := fk_len hr hi
  obtain ⟨Z, ids, h138, hsc, hs2, g1, g2, ht⟩ := rev_out hO hne (by omega) kt (Nat.le_refl _)
  generalize K ++ X = Y at *
  simp only [hT, h138, hsc, evX, Int.reduceEq, Int.reduceLT, Int.reduceLE, Nat.reduceMul, Nat.reduceMod, evW, fn_eq, evR, Nat.reduceAdd, Nat.reduceLT, Nat.reduceLeDiff, reduceIte, Nat.reduceEqDiff, reduceCtorEq, argEnv, eq_self, if_true, if_false]
  exact frz_one g1 hs2 ht g2

/-! the answer -/
/-- arguments with their types, without the last -/
def zArs (ts : List Ty) (l : List Ar) : List (Int × Ar) := (l.take (l.length - 1)).map fun a => (tyIx ts a.seg, a)
def datL (b : Base) (f : List Item) (l : List Ar) (i : Nat) : List ByteArray := (pth b.types f i).flatMap (selP f (zArs b.types l))
def ansB (b : Base) (f : List Item) (l : List Ar) (i : Nat) : An :=
  ⟨sWell, (tyOf b.types (typ f (i : Int))).name, ((pth b.types f i).length : Int), ⟨(keyU (fkL b f i)).toArray⟩, catL ⟨#[]⟩ (datL b f l i ++ [dat f (i : Int)])⟩
theorem catL_app : ∀ (l m : List ByteArray) (s : ByteArray), catL s (l ++ m) = catL (catL s l) m
  | [], _, _ => rfl
  | x :: l, m, s => catL_app l m (s ++ x)
theorem catL_size : ∀ (l : List ByteArray) (s : ByteArray) (n : Nat), (∀ x ∈ l, x.size ≤ n) → (catL s l).size ≤ s.size + l.length * n
  | [], _, _, _ => by simp [catL]
  | x :: l, s, n, h => by
    have h1 := h x (by simp)
    have h2 := catL_size l (s ++ x) n fun y hy => h y (by simp [hy])
    rw [ByteArray.size_append] at h2
    rw [catL, List.length_cons, Nat.succ_mul]
    omega
/-- the place of a type among the arguments' -/
theorem sel_at {ts : List Ty} {l : List Ar} (f : List Item) (a : Int) : (∃ (k : Nat) (x : Ar), idxOf (fun y => decide (typ f a = y)) (tysA ts l) = (k : Int) ∧ k < l.length - 1 ∧ l[k]? = some x ∧ selP f (zArs ts l) a = if hasC x 68 = true then [dat f a] else []) ∨
    (idxOf (fun y => decide (typ f a = y)) (tysA ts l) < 0 ∧ selP f (zArs ts l) a = []) ∨ ∃ k : Nat, idxOf (fun y => decide (typ f a = y)) (tysA ts l) = (k : Int) ∧ k < l.length ∧ l.length - 1 ≤ k ∧ selP f (zArs ts l) a = [] := by
  have hz : ∀ m : Nat, ∀ z ∈ (l.take m).map (fun a => (tyIx ts a.seg, a)), z.1 ∈ tysA ts l := fun m z hz => by
    obtain ⟨x, hx, rfl⟩ := List.mem_map.1 hz
    exact List.mem_map.2 ⟨x, List.mem_of_mem_take hx, rfl⟩
  rcases idxOf_find (fun y => decide (typ f a = y)) (tysA ts l) with ⟨h1, h2⟩ | ⟨k, t, h1, h2, h3, h4⟩
  · refine .inr (.inl ⟨by omega, ?_⟩)
    unfold selP
    rw [List.find?_eq_none.2]
    intro z hz'
    have := List.find?_eq_none.1 h2 _ (hz _ z hz')
    simp only [decide_eq_true_eq] at this ⊢
    exact fun e => this e.symm
  · have hk : k < l.length := by have := (List.getElem?_eq_some_iff.1 h2).1; simpa [tysA] using this
    obtain ⟨x, hx⟩ : ∃ x, l[k]? = some x := ⟨_, List.getElem?_eq_getElem hk⟩
    have htx : tyIx ts x.seg = t := by rw [tysA_at hx] at h2; simpa using h2
    have hta : typ f a = t := by simpa using h4
    have first : ∀ j : Nat, j < k → ∀ y, l[j]? = some y → tyIx ts y.seg ≠ typ f a := fun j hj y hy e => by
      have e1 : idxOf (fun y => decide (typ f a = y)) (tysA ts l) ≤ (j : Int) := by
        unfold idxOf
        cases hf : (tysA ts l).findIdx? fun y => decide (typ f a = y) with
        | none => simp only; omega
        | some m =>
          have := List.findIdx?_eq_some_iff_getElem.1 hf
          obtain ⟨_, _, h⟩ := this
          simp only
          apply Classical.byContradiction
          intro hc
          have := h j (by omega)
          have hyj := tysA_at (ts := ts) hy
          rw [List.getElem?_eq_getElem (by have := (List.getElem?_eq_some_iff.1 hy).1; simpa [tysA] using this)] at hyj
          simp only [Option.some.injEq] at hyj
          rw [hyj] at this
          simp [e] at this
      omega
    by_cases hkn : k < l.length - 1
    · refine .inl ⟨k, x, h1, hkn, hx, ?_⟩
      have hf : (zArs ts l).find? (fun z => decide (z.1 = typ f a)) = some (tyIx ts x.seg, x) := by
        rw [List.find?_eq_some_iff_getElem]
        refine ⟨by simp [htx, hta], k, by simp [zArs]; omega, ?_, fun j hj => ?_⟩
        · simp only [zArs, List.getElem_map, List.getElem_take]
          rw [List.getElem?_eq_getElem hk] at hx
          simp only [Option.some.injEq] at hx
          rw [hx]
        · have hjl : j < l.length := by omega
          have := first j hj _ (List.getElem?_eq_getElem hjl)
          simpa [zArs] using this
      unfold selP
      rw [hf]
    · refine .inr (.inr ⟨k, h1, hk, by omega, ?_⟩)
      unfold selP
      rw [List.find?_eq_none.2]
      intro z hz'
      obtain ⟨y, hy, rfl⟩ := List.mem_map.1 hz'
      obtain ⟨j, hj⟩ := List.getElem?_of_mem hy
      rw [List.getElem?_take] at hj
      split at hj
      · have := first j (by omega) y hj
        simpa using this
      · cases hj
theorem dat_small {b : Base} {f : List Item} (hr : Right b f) {i : Nat} (hi : i < f.length) : (dat f (i : Int)).size ≤ 1000 := by
  obtain ⟨x, k, t, hx, _, _, _, hty, _, h⟩ := hr.item hi
  rw [dat_at hx]
  simp only [tyOk, Bool.and_eq_true, sizeOk, decide_eq_true_eq] at hty
  omega
theorem rowBytes_U : ∀ p : List UInt8, rowBytes (p.map rU) = some p
  | [] => rfl
  | n :: p => by simp [rowBytes, rU, rowBytes_U p]
theorem b2s_U (H : Heap) (l : List UInt8) : b2sK H (some (eU l)) = some (.str ⟨l.toArray⟩) := by
  simp only [b2sK, eU, rowsOf, rowBytes_U]; rfl
theorem selP_one (f : List Item) (Z : List (Int × Ar)) (m : List Int) : (m.flatMap (selP f Z)).length ≤ m.length := by
  induction m with
  | nil => simp
  | cons c m ih =>
    rw [List.flatMap_cons, List.length_append, List.length_cons]
    have : (selP f Z c).length ≤ 1 := by
      unfold selP
      split
      · split <;> simp
      · simp
    omega
theorem selP_size {b : Base} {f : List Item} (hr : Right b f) {i : Nat} (hi : i < f.length) (Z : List (Int × Ar)) (j : Nat) : (catL ⟨#[]⟩ (((pth b.types f i).take j).flatMap (selP f Z))).size ≤ 1000000 := by
  have hpl := fk_len hr hi
  have h7 := catL_size (((pth b.types f i).take j).flatMap (selP f Z)) ⟨#[]⟩ 1000 fun x hx => by
    obtain ⟨a, ha, hxa⟩ := List.mem_flatMap.1 hx
    have hb := pth_bound (List.mem_of_mem_take ha)
    obtain ⟨j, rfl⟩ : ∃ j : Nat, a = (j : Int) := ⟨a.toNat, by omega⟩
    unfold selP at hxa
    split at hxa
    · split at hxa
      · simp only [List.mem_singleton] at hxa
        rw [hxa]; exact dat_small hr (by omega)
      · cases hxa
    · cases hxa
  have h8 := selP_one f Z ((pth b.types f i).take j)
  rw [List.length_take] at h8
  have e0 : (⟨#[]⟩ : ByteArray).size = 0 := rfl
  rw [e0] at h7
  have : (((pth b.types f i).take j).flatMap (selP f Z)).length * 1000 ≤ 5000 := by omega
  omega
def bAn0 : Blk := ⟨0, true, 49, 5, [[.str ⟨#[]⟩, .str ⟨#[]⟩, .int .i64 0, .str ⟨#[]⟩, .str ⟨#[]⟩]]⟩
set_option maxHeartbeats 8000000 in
theorem l70 (b : Base) (f : List Item) (hr : Right b f) (p : Nat) (K1 : Heap) (hk : Bk b f p K1) (l : List Ar) (hl : l.length < 9223372036854775807) (av ta : AV) (hav : av = eArs l ∨ l = []) (hlen : lenK false (some av) = some (.int .i64 (l.length : Int))) (hta : ∀ H, SlAt H 1 ta ((tysA b.types l).map rI)) (i : Nat) (hi : i < f.length) (n0 : Nat) (st : St)
    (hE : keepEnv st.1 [0, 1, 2, 3, 8, 9, 10, 11, 21, 22, 23] = [(0, .ptr p 0 6 0 0), (1, av), (2, ta), (3, .int .i64 (i : Int)), (8, .ptr n0 0 5 0 0), (9, .nils), (10, .str ⟨#[]⟩), (11, eIs (pth b.types f i)), (21, eIs (pth b.types f i)), (22, .int .i64 ((pth b.types f i).length : Int)), (23, .int .i64 0)]) (hH : st.2 = K1) (z : Option (CX × St)) (hz : itLim (evCode (evC cprog) itLim c70_l0) st = z) :
    ∃ T X rv, z = some (.exit 0, T, K1 ++ X) ∧ keepEnv T [0, 3, 8, 9, 10, 11] = [(0, .ptr p 0 6 0 0), (3, .int .i64 (i : Int)), (8, .ptr n0 0 5 0 0), (9, rv), (10, .str (catL ⟨#[]⟩ (datL b f l i))), (11, eIs (pth b.types f i))] ∧ Out K1.length 1 9 X rv ((fkL b f i).map rS) := by
  have hpl := fk_len hr hi
  have hfl := hr.len
  obtain ⟨pv, kp, _, _⟩ := hk.open
  have L := loop_rule (σ := Nat × Heap × AV) (m := [0, 1, 2, 3, 8, 9, 10, 11, 21, 22, 23]) (env := fun s => [(0, .ptr p 0 6 0 0), (1, av), (2, ta), (3, .int .i64 (i : Int)), (8, .ptr n0 0 5 0 0), (9, s.2.2), (10, .str (catL ⟨#[]⟩ (((pth b.types f i).take s.1).flatMap (selP f (zArs b.types l))))), (11, eIs (pth b.types f i)), (21, eIs (pth b.types f i)), (22, .int .i64 ((pth b.types f i).length : Int)), (23, .int .i64 (s.1 : Int))]) (hp := fun s => K1 ++ s.2.1)
    (P := fun _ r => ∃ T X rv, r = (.exit 0, T, K1 ++ X) ∧ keepEnv T [0, 3, 8, 9, 10, 11] = [(0, .ptr p 0 6 0 0), (3, .int .i64 (i : Int)), (8, .ptr n0 0 5 0 0), (9, rv), (10, .str (catL ⟨#[]⟩ (datL b f l i))), (11, eIs (pth b.types f i))] ∧ Out K1.length 1 9 X rv ((fkL b f i).map rS))
    (mu := fun s => (pth b.types f i).length - s.1) (I := fun s => s.1 ≤ (pth b.types f i).length ∧ Out K1.length 1 9 s.2.1 s.2.2 ((((pth b.types f i).take s.1).map (keyA b f)).map rS)) (evCode (evC cprog) itLim c70_l0) ?_ (0, [], .nils) st ⟨Nat.zero_le _, .nils ..⟩ (by simpa [catL] using hE) (by simpa using hH) z hz
  · obtain ⟨_, rfl, T, X, rv, rfl, h1, h2⟩ := L
    exact ⟨T, X, rv, rfl, h1, h2⟩
  · rintro ⟨j, X, rv⟩ ⟨hj, hO⟩ E hE
    simp only at hj hO hE ⊢
    by_cases hlt : j < (pth b.types f i).length
    · obtain ⟨a, ha⟩ : ∃ a, (pth b.types f i)[j]? = some a := ⟨_, List.getElem?_eq_getElem hlt⟩
      have hjl : (j : Int) < ((pth b.types f i).length : Int) := by omega
      have hai := aI ha
      have hw := wrapS hlt (by omega)
      obtain ⟨n, x, k, t, rfl, hni, h1, h2, h3, h4, h5, h6⟩ := fk_at hr hi (List.mem_of_getElem? ha)
      have hax := aItem h1
      have hdx := dat_at h1
      have h109 := f109 b hr.base hr.valid k t h3 h4 x.data (item_fits hr h1 h2)
      have hO2 := hO.more [⟨0, true, 55, 2, [rItem x]⟩, ⟨0, true, 9, 1, [[.str (keyOf t x.data)]]⟩]
      obtain ⟨rv1, X1, a1, t1, O1, hkp, _⟩ := hO2.app2 K1 rfl 16 (.ref (K1.length + (X.length + 1)) 0 1 0 1) [rS (keyOf t x.data)] (by simp [srcRows, rowsOf, curBlk, at_app, rS]) (by simp [rS]) (by simp) (by simp [reach]; omega)
      have hX1 : X1[X.length]? = some ⟨0, true, 55, 2, [rItem x]⟩ := hkp X.length _ (by simp) (out_oblk hO)
      have hra : (((pth b.types f i).take j).map (keyA b f)).map rS ++ [rS (keyOf t x.data)] = (((pth b.types f i).take (j + 1)).map (keyA b f)).map rS := by
        rw [List.take_add_one, ha]; simp [h6]
      rw [hra] at O1
      have hst : catL ⟨#[]⟩ (((pth b.types f i).take (j + 1)).flatMap (selP f (zArs b.types l))) = catL (catL ⟨#[]⟩ (((pth b.types f i).take j).flatMap (selP f (zArs b.types l)))) (selP f (zArs b.types l) (n : Int)) := by
        rw [List.take_add_one, ha, List.flatMap_append, catL_app]; simp
      have hcs := selP_size hr hi (zArs b.types l) j
      have hds := dat_small hr (i := n) (by omega)
      rw [hdx] at hds
      generalize catL ⟨#[]⟩ (((pth b.types f i).take j).flatMap (selP f (zArs b.types l))) = S at *
      have hsz : S.size + x.data.size ≤ 9223372036854775807 := by omega
      have h110 := fun H => f110 x.type H ta (tysA b.types l) (hta H) (by simp [tysA]; omega)
      have htn := typ_at h1
      rw [← htn] at h110
      rw [← h2, ← htn] at h109
      simp only [eBase, rS] at h109 a1
      simp only [rItem, ← htn] at hax a1 hX1
      rcases sel_at (ts := b.types) (l := l) f (n : Int) with ⟨m, y, m1, m2, m3, m4⟩ | ⟨m1, m4⟩ | ⟨m, m1, m2, m3, m4⟩
      · have hm0 : (0 : Int) ≤ (m : Int) := by omega
        have hm1 : (m : Int) < ((l.length - 1 : Nat) : Int) := by omega
        have hwl : IntKind.i64.wrap ((l.length : Int) - 1) = ((l.length - 1 : Nat) : Int) := by rw [wrap_i64 (by omega) (by omega)]; omega
        have hay := aAr m3
        have hav' : av = eArs l := by
          rcases hav with h | h
          · exact h
          · rw [h] at m3; simp at m3
        subst hav'
        rw [m1] at h110
        have h111 : ∀ H, cal (evC cprog) false 111 [.agg (rAr y), .int .u8 68] H = some (.bool (hasC y 68), H) := fun H => f111 y 68 H
        simp only [rAr] at h111
        cases hD : hasC y 68 with
        | true =>
          rw [hD] at h111
          rw [hD, if_pos rfl, hdx] at m4
          rw [m4] at hst
          generalize typ f (n : Int) = ty at *
          simp only [c70_l0, nilck_ptr, hE, hjl, hai, rI, kp, hax, h109, a1, t1, hX1, h110, hm0, hlen, hwl, hm1, hay, rAr, h111, hsz, hw, evX, Int.reduceEq, Int.reduceLT, Int.reduceLE, Nat.reduceMul, Nat.reduceMod, evW, fn_eq, evR, Nat.reduceAdd, Nat.reduceLT, Nat.reduceLeDiff, reduceIte, Nat.reduceEqDiff, reduceCtorEq, argEnv, eq_self, if_true, if_false]
          exact q_next (j + 1, X1, rv1) (by simp only [hst]; rfl) rfl ⟨hlt, O1⟩ (by simp only; omega) fun r h => h
        | false =>
          rw [hD] at h111
          rw [hD, if_neg (by decide)] at m4
          rw [m4] at hst
          generalize typ f (n : Int) = ty at *
          simp only [c70_l0, nilck_ptr, hE, hjl, hai, rI, kp, hax, h109, a1, t1, hX1, h110, hm0, hlen, hwl, hm1, hay, rAr, h111, hw, evX, Int.reduceEq, Int.reduceLT, Int.reduceLE, Nat.reduceMul, Nat.reduceMod, evW, fn_eq, evR, Nat.reduceAdd, Nat.reduceLT, Nat.reduceLeDiff, reduceIte, Nat.reduceEqDiff, reduceCtorEq, argEnv, eq_self, if_true, if_false]
          exact q_next (j + 1, X1, rv1) (by simp only [hst]; rfl) rfl ⟨hlt, O1⟩ (by simp only; omega) fun r h => h
      · have hm0 : (0 ≤ idxOf (fun y => decide (typ f (n : Int) = y)) (tysA b.types l)) = False := eq_false (by omega)
        rw [m4] at hst
        generalize idxOf (fun y => decide (typ f (n : Int) = y)) (tysA b.types l) = m at *
        generalize typ f (n : Int) = ty at *
        simp only [c70_l0, nilck_ptr, hE, hjl, hai, rI, kp, hax, h109, a1, t1, hX1, h110, hm0, hw, evX, Int.reduceEq, Int.reduceLT, Int.reduceLE, Nat.reduceMul, Nat.reduceMod, evW, fn_eq, evR, Nat.reduceAdd, Nat.reduceLT, Nat.reduceLeDiff, reduceIte, Nat.reduceEqDiff, reduceCtorEq, argEnv, eq_self, if_true, if_false]
        exact q_next (j + 1, X1, rv1) (by simp only [hst]; rfl) rfl ⟨hlt, O1⟩ (by simp only; omega) fun r h => h
      · have hm0 : (0 : Int) ≤ (m : Int) := by omega
        have hm1 : ¬ (m : Int) < ((l.length - 1 : Nat) : Int) := by omega
        have hwl : IntKind.i64.wrap ((l.length : Int) - 1) = ((l.length - 1 : Nat) : Int) := by rw [wrap_i64 (by omega) (by omega)]; omega
        rw [m1] at h110
        rw [m4] at hst
        generalize typ f (n : Int) = ty at *
        simp only [c70_l0, nilck_ptr, hE, hjl, hai, rI, kp, hax, h109, a1, t1, hX1, h110, hm0, hlen, hwl, hm1, hw, evX, Int.reduceEq, Int.reduceLT, Int.reduceLE, Nat.reduceMul, Nat.reduceMod, evW, fn_eq, evR, Nat.reduceAdd, Nat.reduceLT, Nat.reduceLeDiff, reduceIte, Nat.reduceEqDiff, reduceCtorEq, argEnv, eq_self, if_true, if_false]
        exact q_next (j + 1, X1, rv1) (by simp only [hst]; rfl) rfl ⟨hlt, O1⟩ (by simp only; omega) fun r h => h
    · have hjl : ¬ (j : Int) < ((pth b.types f i).length : Int) := by omega
      rw [List.take_of_length_le (by omega)] at hO hE
      simp only [c70_l0, nilck_ptr, hE, hjl, evX, Int.reduceEq, Int.reduceLT, Int.reduceLE, Nat.reduceMul, Nat.reduceMod, evW, fn_eq, evR, Nat.reduceAdd, Nat.reduceLT, Nat.reduceLeDiff, reduceIte, Nat.reduceEqDiff, reduceCtorEq, argEnv, eq_self, if_true, if_false]
      exact q_exit ⟨_, X, rv, rfl, by rfl, hO⟩
set_option maxHeartbeats 8000000 in
theorem f70 (b : Base) (f : List Item) (hr : Right b f) (p : Nat) (K : Heap) (hk : Bk b f p K) (l : List Ar) (hl : l.length < 9223372036854775807) (av ta : AV) (hav : av = eArs l ∨ l = []) (hlen : lenK false (some av) = some (.int .i64 (l.length : Int))) (hta : ∀ H, SlAt H 1 ta ((tysA b.types l).map rI)) (i : Nat) (hi : i < f.length) :
    cal (evC cprog) false 70 [.ptr p 0 6 0 0, av, ta, .int .i64 (i : Int)] K = some (eAn (ansB b f l i), K) := by
  rw [cal_of at70]
  have h108 := f108 b f hr p (K ++ [bAn0]) (hk.app _) i hi
  have hplen := (sIs [] (pth b.types f i)).len
  have hpl := fk_len hr hi
  simp only [List.length_map] at hplen
  simp only [bAn0] at h108
  simp only [c70, h108, hplen, evX, Int.reduceEq, Int.reduceLT, Int.reduceLE, Nat.reduceMul, Nat.reduceMod, evW, fn_eq, evR, Nat.reduceAdd, Nat.reduceLT, Nat.reduceLeDiff, reduceIte, Nat.reduceEqDiff, reduceCtorEq, argEnv, eq_self, if_true, if_false]
  generalize hz : itLim _ _ = z
  obtain ⟨T, X, rv, rfl, hT, hO⟩ := l70 b f hr p (K ++ [bAn0]) (hk.app _) l hl av ta hav hlen hta i hi K.length _ (by rfl) (by simp [bAn0]) z hz
  clear hz
  obtain ⟨pv, kp, _, _⟩ := hk.open
  obtain ⟨x, k, t, hx, hk', hkl, ht, _⟩ := hr.item hi
  have hax := aItem hx
  have hat := aTy ht
  rw [← hk'] at hat
  have hdx := dat_at hx
  have hcs : (catL ⟨#[]⟩ (datL b f l i)).size ≤ 1000000 := by
    have := selP_size hr hi (zArs b.types l) (pth b.types f i).length
    rwa [List.take_length] at this
  have hds := dat_small hr hi
  rw [hdx] at hds
  have hsz : (catL ⟨#[]⟩ (datL b f l i)).size + x.data.size ≤ 9223372036854775807 := by omega
  have h112 := f112 rv (fkL b f i) (by simp only [fkL, List.length_map]; omega) (fk_size hr hi) (K ++ ([bAn0] ++ X)) (by rw [← List.append_assoc]; exact out_slS hO (K ++ [bAn0]) rfl)
  have hb2 := fun H => b2s_U H (keyU (fkL b f i))
  have hans : ansB b f l i = ⟨sWell, t.name, ((pth b.types f i).length : Int), ⟨(keyU (fkL b f i)).toArray⟩, catL ⟨#[]⟩ (datL b f l i) ++ x.data⟩ := by
    unfold ansB
    rw [catL_app, hdx, typ_at hx, hk', tyOf_at ht]; rfl
  rw [hans]
  have hsc := out_tup hO
  simp only [bAn0, List.cons_append, List.nil_append] at h112 ⊢
  generalize catL ⟨#[]⟩ (datL b f l i) = S at *
  generalize keyU (fkL b f i) = q at *
  simp only [hT, nilck_ptr, kp, hax, rItem, hat, rTy, hsz, hplen, h112, hb2, evX, Int.reduceEq, Int.reduceLT, Int.reduceLE, Nat.reduceMul, Nat.reduceMod, evW, fn_eq, evR, Nat.reduceAdd, Nat.reduceLT, Nat.reduceLeDiff, reduceIte, Nat.reduceEqDiff, reduceCtorEq, argEnv, eq_self, if_true, if_false]
  rfl
end Go.Proofs.YtbdpceigmnpoaaaGreatDoor.Code

/- call: items on a path, what holds, what satisfies and search, of the document. -/
set_option linter.unusedSimpArgs false
set_option linter.unusedVariables false
namespace Go.Proofs.YtbdpceigmnpoaaaGreatDoor.Code
open Go.Proofs.YtbdpceigmnpoaaaGreatDoor.Ev

end Go.Proofs.YtbdpceigmnpoaaaGreatDoor.Code

/- call: the answer for an item, of the document. -/
set_option linter.unusedSimpArgs false
set_option linter.unusedVariables false
namespace Go.Proofs.YtbdpceigmnpoaaaGreatDoor.Code
open Go.Proofs.YtbdpceigmnpoaaaGreatDoor.Ev

end Go.Proofs.YtbdpceigmnpoaaaGreatDoor.Code

/- call: the first state with a forest, states that are right and the same, of the program and of the document. -/
set_option linter.unusedSimpArgs false
set_option linter.unusedVariables false
namespace Go.Proofs.YtbdpceigmnpoaaaGreatDoor.Code
open Go.Proofs.YtbdpceigmnpoaaaGreatDoor.Ev

/-- the first state with a forest -/
def staF (f : List Item) : Ste := ⟨f, -1, 0, -1, false⟩
def sta0 : Ste := ⟨[], 0, 0, 0, false⟩
/-- the numbers of a state are right -/
def numOk (s : Ste) : Bool :=
  decide (-1 ≤ s.at') && decide (s.at' < (s.items.length : Int)) && decide (0 ≤ s.next) && decide (s.next ≤ (s.items.length : Int)) && decide (-1 ≤ s.parent) && decide (s.parent < (s.items.length : Int)) &&
    (if s.at' < 0 then !s.held else decide (s.next = s.at' + 1))
noncomputable def forE (b : Base) (f : List Item) : Int := if validB b = true then (if forestOk b.types f = true then 0 else 140) else 100
noncomputable def fstS (b : Base) (f : List Item) : Ste := if forE b f = 0 then staF f else sta0
noncomputable def sameS (s t : Ste) : Bool := same s.items t.items && decide (s.at' = t.at') && decide (s.next = t.next) && decide (s.parent = t.parent) && (s.held == t.held)
theorem sameS_self (s : Ste) : sameS s s = true := by
  have : same s.items s.items = true := tell_pos rfl
  simp [sameS, this]
theorem numOk_staF (f : List Item) : numOk (staF f) = true := by
  simp only [numOk, staF, decide_eq_true (show (-1 : Int) ≤ -1 by omega), decide_eq_true (show (-1 : Int) < (f.length : Int) by omega), decide_eq_true (show (0 : Int) ≤ 0 by omega), decide_eq_true (show (0 : Int) ≤ (f.length : Int) by omega), if_pos (show (-1 : Int) < 0 by omega)]; rfl
/-- slices.Clone of items, frozen -/
theorem f45z (f : List Item) (hl : f.length ≤ 1000) (H : Heap) : cal (evC cprog) true 45 [eItems f] H = some (eItems f, H) := by
  cases f with
  | nil =>
    have h := clone_nil (ty := 55) (sz := 2) (bytes := 24) at45 H
    exact cal_frz (ids := []) h rfl rfl (by simp) (by simp)
  | cons y ys =>
    have h := clone_lst (ty := 55) (sz := 2) (bytes := 24) at45 (rItem y) (ys.map rItem) H rfl (by simp [reach] at *; omega)
    obtain ⟨ids, g1, g2⟩ := fz_blk (H := H ++ [⟨0, true, 55, 2, (y :: ys).map rItem⟩]) (b := H.length) (v := 0) (sz := 2) (len := (y :: ys).length) (k := ⟨0, true, 55, 2, (y :: ys).map rItem⟩) (by simp [curBlk]) (rows := (y :: ys).map rItem)
      (by rw [List.take_of_length_le (by simp)]) (plain_items _) 6
    rw [List.length_map] at h
    exact cal_frz (ids := ids) h g1 rfl (by simp) (fun b hb => by rw [g2 b hb]; exact Nat.le_refl _)
theorem f42 (f : List Item) (hl : f.length ≤ 1000) (H : Heap) : cal (evC cprog) true 42 [eItems f] H = some (eSte (staF f), H) := by
  rw [cal_of at42]
  have h45 := f45z f hl
  simp only [c42, h45, cells_eItems, isTup_eItems, evX, Int.reduceEq, Int.reduceLT, Int.reduceLE, Nat.reduceMul, Nat.reduceMod, evW, fn_eq, evR, Nat.reduceAdd, Nat.reduceLT, Nat.reduceLeDiff, reduceIte, Nat.reduceEqDiff, reduceCtorEq, argEnv, eq_self, if_true, if_false]
  exact calK_frz (ids := []) rfl rfl (by simp) (by simp)
theorem f48 (s : Ste) (hl : s.items.length < 9223372036854775807) (H : Heap) : cal (evC cprog) false 48 [eSte s] H = some (.bool (numOk s), H) := by
  rw [cal_of at48]
  have hlen := (sItems [] s.items).len
  simp only [List.length_map] at hlen
  obtain ⟨f, a, n, p, h⟩ := s
  simp only at hl hlen
  by_cases n1 : a < -1
  · simp only [c48, eSte, rSte, hlen, n1, evX, Int.reduceEq, Int.reduceLT, Int.reduceLE, Nat.reduceMul, Nat.reduceMod, evW, fn_eq, evR, Nat.reduceAdd, Nat.reduceLT, Nat.reduceLeDiff, reduceIte, Nat.reduceEqDiff, reduceCtorEq, argEnv, eq_self, if_true, if_false]
    simp [numOk]; omega
  by_cases n2 : (f.length : Int) ≤ a
  · simp only [c48, eSte, rSte, hlen, n1, n2, evX, Int.reduceEq, Int.reduceLT, Int.reduceLE, Nat.reduceMul, Nat.reduceMod, evW, fn_eq, evR, Nat.reduceAdd, Nat.reduceLT, Nat.reduceLeDiff, reduceIte, Nat.reduceEqDiff, reduceCtorEq, argEnv, eq_self, if_true, if_false]
    simp [numOk]; omega
  by_cases n3 : n < 0
  · simp only [c48, eSte, rSte, hlen, n1, n2, n3, evX, Int.reduceEq, Int.reduceLT, Int.reduceLE, Nat.reduceMul, Nat.reduceMod, evW, fn_eq, evR, Nat.reduceAdd, Nat.reduceLT, Nat.reduceLeDiff, reduceIte, Nat.reduceEqDiff, reduceCtorEq, argEnv, eq_self, if_true, if_false]
    simp [numOk]; omega
  by_cases n4 : (f.length : Int) < n
  · simp only [c48, eSte, rSte, hlen, n1, n2, n3, n4, evX, Int.reduceEq, Int.reduceLT, Int.reduceLE, Nat.reduceMul, Nat.reduceMod, evW, fn_eq, evR, Nat.reduceAdd, Nat.reduceLT, Nat.reduceLeDiff, reduceIte, Nat.reduceEqDiff, reduceCtorEq, argEnv, eq_self, if_true, if_false]
    simp [numOk]; omega
  by_cases n5 : p < -1
  · simp only [c48, eSte, rSte, hlen, n1, n2, n3, n4, n5, evX, Int.reduceEq, Int.reduceLT, Int.reduceLE, Nat.reduceMul, Nat.reduceMod, evW, fn_eq, evR, Nat.reduceAdd, Nat.reduceLT, Nat.reduceLeDiff, reduceIte, Nat.reduceEqDiff, reduceCtorEq, argEnv, eq_self, if_true, if_false]
    simp [numOk]; omega
  by_cases n6 : (f.length : Int) ≤ p
  · simp only [c48, eSte, rSte, hlen, n1, n2, n3, n4, n5, n6, evX, Int.reduceEq, Int.reduceLT, Int.reduceLE, Nat.reduceMul, Nat.reduceMod, evW, fn_eq, evR, Nat.reduceAdd, Nat.reduceLT, Nat.reduceLeDiff, reduceIte, Nat.reduceEqDiff, reduceCtorEq, argEnv, eq_self, if_true, if_false]
    simp [numOk]; omega
  have e : numOk ⟨f, a, n, p, h⟩ = if a < 0 then !h else decide (n = a + 1) := by
    simp only [numOk, decide_eq_true (show -1 ≤ a by omega), decide_eq_true (show a < (f.length : Int) by omega), decide_eq_true (show 0 ≤ n by omega), decide_eq_true (show n ≤ (f.length : Int) by omega), decide_eq_true (show -1 ≤ p by omega), decide_eq_true (show p < (f.length : Int) by omega), Bool.true_and]
  rw [e]
  by_cases n7 : a < 0
  · simp only [c48, eSte, rSte, hlen, n1, n2, n3, n4, n5, n6, n7, evX, Int.reduceEq, Int.reduceLT, Int.reduceLE, Nat.reduceMul, Nat.reduceMod, evW, fn_eq, evR, Nat.reduceAdd, Nat.reduceLT, Nat.reduceLeDiff, reduceIte, Nat.reduceEqDiff, reduceCtorEq, argEnv, eq_self, if_true, if_false]
  · have hw : IntKind.i64.wrap (a + 1) = a + 1 := wrap_i64 (by omega) (by omega)
    simp only [c48, eSte, rSte, hlen, n1, n2, n3, n4, n5, n6, n7, hw, evX, Int.reduceEq, Int.reduceLT, Int.reduceLE, Nat.reduceMul, Nat.reduceMod, evW, fn_eq, evR, Nat.reduceAdd, Nat.reduceLT, Nat.reduceLeDiff, reduceIte, Nat.reduceEqDiff, reduceCtorEq, argEnv, eq_self, if_true, if_false]
theorem f18 (b : Base) (hb : b.Ok) (s : Ste) (hl : s.items.length < 9223372036854775807) (H : Heap) : cal (evC cprog) false 18 [eBase b, eSte s] H = some (bEr (validB b && forestOk b.types s.items && numOk s) (if validB b = true then 0 else 100), H) := by
  rw [cal_of at18]
  have h41 := f41 b hb s.items
  have h48 := f48 s hl
  cases hv : validB b <;> cases hf : forestOk b.types s.items
  all_goals
    simp only [eBase, bEr, hv, hf, if_true, if_false, Bool.false_eq_true, Bool.and_self, Bool.and_false, Bool.false_and] at h41
    simp only [eSte, rSte] at h48
    simp only [c18, eBase, eSte, rSte, bEr, h41, h48, evX, Int.reduceEq, Int.reduceLT, Int.reduceLE, Nat.reduceMul, Nat.reduceMod, evW, fn_eq, evR, Nat.reduceAdd, Nat.reduceLT, Nat.reduceLeDiff, reduceIte, Nat.reduceEqDiff, reduceCtorEq, argEnv, eq_self, if_true, if_false]
theorem f12 (b : Base) (hb : b.Ok) (f : List Item) (hl : f.length ≤ 1000) (H : Heap) : cal (evC cprog) true 12 [eBase b, eItems f] H = some (.tup [eSte (fstS b f), .int .i64 (forE b f)], H) := by
  rw [cal_of at12]
  have h41 := f41 b hb f
  have h42 := f42 f hl
  simp only [eSte, rSte, staF] at h42
  cases hv : validB b <;> cases hf : forestOk b.types f
  all_goals
    simp only [eBase, bEr, hv, hf, if_true, if_false, Bool.false_eq_true, Bool.and_self, Bool.and_false, Bool.false_and] at h41
    have e : forE b f = if validB b = true then (if forestOk b.types f = true then 0 else 140) else 100 := rfl
    rw [hv, hf] at e
    simp only [if_true, if_false, Bool.false_eq_true] at e
    rw [fstS, e]
    simp only [c12, eBase, h41, h42, evX, Int.reduceEq, Int.reduceLT, Int.reduceLE, Nat.reduceMul, Nat.reduceMod, evW, fn_eq, evR, Nat.reduceAdd, Nat.reduceLT, Nat.reduceLeDiff, reduceIte, Nat.reduceEqDiff, reduceCtorEq, argEnv, eq_self, if_true, if_false]
    exact calK_frz (ids := []) rfl rfl (by simp) (by simp)
theorem f16 (s t : Ste) (hl : s.items.length < 9223372036854775807) (H : Heap) : cal (evC cprog) false 16 [eSte s, eSte t] H = some (.bool (sameS s t), H) := by
  rw [cal_of at16]
  have h23 := f23 s.items t.items hl
  cases n0 : same s.items t.items <;> by_cases n1 : s.at' = t.at' <;> by_cases n2 : s.next = t.next <;> by_cases n3 : s.parent = t.parent
  all_goals
    simp only [c16, eSte, rSte, h23, n0, n1, n2, n3, evX, Int.reduceEq, Int.reduceLT, Int.reduceLE, Nat.reduceMul, Nat.reduceMod, evW, fn_eq, evR, Nat.reduceAdd, Nat.reduceLT, Nat.reduceLeDiff, reduceIte, Nat.reduceEqDiff, reduceCtorEq, argEnv, eq_self, if_true, if_false]
    simp [sameS, n0, n1, n2, n3]
end Go.Proofs.YtbdpceigmnpoaaaGreatDoor.Code

/- call: Satisfies, Search and Answer, of the program and of the document. -/
set_option linter.unusedSimpArgs false
set_option linter.unusedVariables false
namespace Go.Proofs.YtbdpceigmnpoaaaGreatDoor.Code
open Go.Proofs.YtbdpceigmnpoaaaGreatDoor.Ev

noncomputable def askE (b : Base) (f : List Item) (l : List Ar) : Int := if forE b f = 0 then (if chkS b.types l = sWell then 0 else 2) else forE b f
theorem forE_right {b : Base} (hb : b.Ok) {f : List Item} (h : forE b f = 0) : Right b f := by
  unfold forE at h
  split at h
  · rename_i h1
    split at h
    · rename_i h2; exact ⟨hb, h1, h2⟩
    · cases h
  · cases h
theorem askE_right {b : Base} (hb : b.Ok) {f : List Item} {l : List Ar} (h : askE b f l = 0) : Right b f ∧ chkS b.types l = sWell := by
  unfold askE at h
  split at h
  · rename_i h1
    split at h
    · rename_i h2; exact ⟨forE_right hb h1, h2⟩
    · cases h
  · rename_i h1; exact absurd h h1
theorem chkS_rise {ts : List Ty} {l : List Ar} (h : chkS ts l = sWell) : Rise ts (-1) l ∧ l.length ≤ 5 := by
  unfold chkS at h
  split at h
  · cases h
  · rename_i h5; exact ⟨chkA_rise h, by omega⟩
theorem forE_of {b : Base} {f : List Item} : forE b f = if validB b = true then (if forestOk b.types f = true then 0 else 140) else 100 := rfl
set_option maxHeartbeats 4000000 in
theorem f61 (b : Base) (hb : b.Ok) (f : List Item) (l : List Ar) (hok : ∀ a ∈ l, a.Ok) (H : Heap) :
    (askE b f l = 0 → ∃ Z, cal (evC cprog) false 61 [eBase b, eItems f, eArs l] H = some (.tup [.ptr (H.length + 2) 0 6 0 0, eIs (tysA b.types l), .int .i64 0], H ++ Z) ∧ Bk b f (H.length + 2) (H ++ Z)) ∧
    (askE b f l ≠ 0 → cal (evC cprog) false 61 [eBase b, eItems f, eArs l] H = some (.tup [.nilptr, .nils, .int .i64 (askE b f l)], H)) := by
  have h41 := f41 b hb f
  cases hv : validB b with
  | false =>
    have e0 : forE b f = 100 := by rw [forE_of, hv]; rfl
    have e : askE b f l = 100 := by unfold askE; rw [e0]; rfl
    rw [hv] at h41
    simp only [eBase, bEr, Bool.false_and, Bool.false_eq_true, if_false] at h41
    refine ⟨fun h => (by rw [e] at h; cases h), fun _ => ?_⟩
    rw [e, cal_of at61]
    simp only [c61, eBase, h41, evX, Int.reduceEq, Int.reduceLT, Int.reduceLE, Nat.reduceMul, Nat.reduceMod, evW, fn_eq, evR, Nat.reduceAdd, Nat.reduceLT, Nat.reduceLeDiff, reduceIte, Nat.reduceEqDiff, reduceCtorEq, argEnv, eq_self, if_true, if_false]
  | true =>
    cases hf : forestOk b.types f with
    | false =>
      have e0 : forE b f = 140 := by rw [forE_of, hv, hf]; rfl
      have e : askE b f l = 140 := by unfold askE; rw [e0]; rfl
      rw [hv, hf] at h41
      simp only [eBase, bEr, Bool.true_and, if_true] at h41
      refine ⟨fun h => (by rw [e] at h; cases h), fun _ => ?_⟩
      rw [e, cal_of at61]
      simp only [c61, eBase, h41, evX, Int.reduceEq, Int.reduceLT, Int.reduceLE, Nat.reduceMul, Nat.reduceMod, evW, fn_eq, evR, Nat.reduceAdd, Nat.reduceLT, Nat.reduceLeDiff, reduceIte, Nat.reduceEqDiff, reduceCtorEq, argEnv, eq_self, if_true, if_false]
    | true =>
      have e0 : forE b f = 0 := by rw [forE_of, hv, hf]; rfl
      rw [hv, hf] at h41
      simp only [eBase, bEr, Bool.true_and, if_true] at h41
      have h86 := f86 b hb hv l hok
      by_cases hs : chkS b.types l = sWell
      · have e : askE b f l = 0 := by unfold askE; rw [if_pos e0, if_pos hs]
        refine ⟨fun _ => ?_, fun h => absurd e h⟩
        obtain ⟨Z, h105, hB⟩ := f105 b f (forE_right hb e0) (H ++ [bBase b])
        rw [if_pos hs] at h86
        simp only [eBase, bBase, List.length_append, List.length_cons, List.length_nil, Nat.zero_add, Nat.add_assoc, Nat.reduceAdd, List.append_assoc, List.cons_append, List.nil_append] at h105 hB h86
        refine ⟨_, ?_, hB⟩
        rw [cal_of at61]
        have hcu : (eIs (tysA b.types l)).cells = [eIs (tysA b.types l)] := rfl
        have htu : (eIs (tysA b.types l)).isTup = false := rfl
        have hnr : noRef1 (.ptr (H.length + 2) 0 6 0 0) = false := rfl
        simp only [c61, eBase, h41, h86, h105, hcu, htu, hnr, evX, Int.reduceEq, Int.reduceLT, Int.reduceLE, Nat.reduceMul, Nat.reduceMod, evW, fn_eq, evR, Nat.reduceAdd, Nat.reduceLT, Nat.reduceLeDiff, reduceIte, Nat.reduceEqDiff, reduceCtorEq, argEnv, eq_self, if_true, if_false]
      · have e : askE b f l = 2 := by unfold askE; rw [if_pos e0, if_neg hs]
        rw [if_neg hs] at h86
        simp only [eBase] at h86
        refine ⟨fun h => (by rw [e] at h; cases h), fun _ => ?_⟩
        rw [e, cal_of at61]
        have hcu : (eIs []).cells = [eIs []] := rfl
        simp only [c61, eBase, h41, h86, evX, Int.reduceEq, Int.reduceLT, Int.reduceLE, Nat.reduceMul, Nat.reduceMod, evW, fn_eq, evR, Nat.reduceAdd, Nat.reduceLT, Nat.reduceLeDiff, reduceIte, Nat.reduceEqDiff, reduceCtorEq, argEnv, eq_self, if_true, if_false]
def inF (f : List Item) (i : Int) : Bool := decide (0 ≤ i) && decide (i < (f.length : Int))
noncomputable def satE (b : Base) (f : List Item) (l : List Ar) (i : Int) : Int := if askE b f l = 0 then (if inF f i = true then 0 else 2) else askE b f l
noncomputable def satV (b : Base) (f : List Item) (l : List Ar) (i : Int) : Bool := if satE b f l i = 0 then satB b f l i.toNat else false
theorem f33 (b : Base) (hb : b.Ok) (f : List Item) (l : List Ar) (hok : ∀ a ∈ l, a.Ok) (i : Int) (H : Heap) : cal (evC cprog) false 33 [eBase b, eItems f, eArs l, .int .i64 i] H = some (.tup [.bool (satV b f l i), .int .i64 (satE b f l i)], H) := by
  rw [cal_of at33]
  have hlen := (sItems [] f).len
  simp only [List.length_map] at hlen
  by_cases h0 : askE b f l = 0
  · obtain ⟨Z, h61, hB⟩ := (f61 b hb f l hok (H ++ [bBase b])).1 h0
    obtain ⟨hr, hs⟩ := askE_right hb h0
    obtain ⟨hR, hl5⟩ := chkS_rise hs
    simp only [eBase, bBase, List.length_append, List.length_cons, List.length_nil, Nat.zero_add, Nat.add_assoc, Nat.reduceAdd, List.append_assoc, List.cons_append, List.nil_append] at h61 hB
    by_cases i1 : i < 0
    · have e : satE b f l i = 2 := by unfold satE; rw [if_pos h0, if_neg]; simp [inF]; omega
      rw [satV, e, if_neg (by decide)]
      simp only [c33, eBase, h61, i1, evX, Int.reduceEq, Int.reduceLT, Int.reduceLE, Nat.reduceMul, Nat.reduceMod, evW, fn_eq, evR, Nat.reduceAdd, Nat.reduceLT, Nat.reduceLeDiff, reduceIte, Nat.reduceEqDiff, reduceCtorEq, argEnv, eq_self, if_true, if_false]
    by_cases i2 : (f.length : Int) ≤ i
    · have e : satE b f l i = 2 := by unfold satE; rw [if_pos h0, if_neg]; simp [inF]; omega
      rw [satV, e, if_neg (by decide)]
      simp only [c33, eBase, h61, hlen, i1, i2, evX, Int.reduceEq, Int.reduceLT, Int.reduceLE, Nat.reduceMul, Nat.reduceMod, evW, fn_eq, evR, Nat.reduceAdd, Nat.reduceLT, Nat.reduceLeDiff, reduceIte, Nat.reduceEqDiff, reduceCtorEq, argEnv, eq_self, if_true, if_false]
    have e : satE b f l i = 0 := by unfold satE; rw [if_pos h0, if_pos]; simp [inF]; omega
    rw [satV, e, if_pos rfl]
    obtain ⟨n, rfl⟩ : ∃ n : Nat, i = (n : Int) := ⟨i.toNat, by omega⟩
    have h62 := f62 b f hr _ _ hB l (by omega) (rise_ok hR hok) n (by omega)
    rw [Int.toNat_natCast]
    simp only [c33, eBase, h61, hlen, i1, i2, h62, evX, Int.reduceEq, Int.reduceLT, Int.reduceLE, Nat.reduceMul, Nat.reduceMod, evW, fn_eq, evR, Nat.reduceAdd, Nat.reduceLT, Nat.reduceLeDiff, reduceIte, Nat.reduceEqDiff, reduceCtorEq, argEnv, eq_self, if_true, if_false]
  · have h61 := (f61 b hb f l hok (H ++ [bBase b])).2 h0
    have e : satE b f l i = askE b f l := if_neg h0
    rw [satV, e, if_neg h0]
    simp only [eBase, bBase] at h61
    have h0' : (askE b f l = 0) = False := eq_false h0
    generalize askE b f l = q at *
    simp only [c33, eBase, h61, h0', evX, Int.reduceEq, Int.reduceLT, Int.reduceLE, Nat.reduceMul, Nat.reduceMod, evW, fn_eq, evR, Nat.reduceAdd, Nat.reduceLT, Nat.reduceLeDiff, reduceIte, Nat.reduceEqDiff, reduceCtorEq, argEnv, eq_self, if_true, if_false]
end Go.Proofs.YtbdpceigmnpoaaaGreatDoor.Code

/- call: Answer, of the program and of the document. -/
set_option linter.unusedSimpArgs false
set_option linter.unusedVariables false
namespace Go.Proofs.YtbdpceigmnpoaaaGreatDoor.Code
open Go.Proofs.YtbdpceigmnpoaaaGreatDoor.Ev

end Go.Proofs.YtbdpceigmnpoaaaGreatDoor.Code

/- call: all functions are held, by the kernel's look or by a proof of their own (without slices.Insert). -/
set_option linter.unusedSimpArgs false
set_option linter.unusedVariables false
namespace Go.Proofs.YtbdpceigmnpoaaaGreatDoor.Code
open Go.Proofs.YtbdpceigmnpoaaaGreatDoor.Ev

theorem cprog_sound {f : Nat} {c : CFn} (h : cprog f = some c) : okFn Go.Proofs.Tryz.prog f c = true ∨ Held Go.Proofs.Tryz.prog f c := by
  rcases cprog_ok h with h | h
  · exact .inl h
  · simp only [utab, List.mem_cons, Prod.mk.injEq, List.not_mem_nil, or_false] at h
    repeat' (refine Or.elim h ?_ ?_ <;> clear h <;> intro h)
    all_goals
      obtain ⟨rfl, rfl⟩ := h
      first | exact .inr (.inl (userRepl rfl rfl rfl rfl)) | exact .inr (.inl (userIdx rfl rfl rfl rfl)) | exact .inr (.inl (userCmp rfl rfl rfl rfl))
end Go.Proofs.YtbdpceigmnpoaaaGreatDoor.Code

/- Closed runs: what is asked again and again is looked up. -/
set_option linter.unusedSimpArgs false
set_option linter.unusedVariables false
namespace Go.Proofs.YtbdpceigmnpoaaaGreatDoor.Ev

/-- the evaluator, with answers known ahead -/
def evCallO (prog : Nat → Option CFn) (orc : Nat → List AV → Option (AV × Heap)) : Nat → Nat → List AV → Heap → Option (AV × Heap)
  | 0, _, _, _ => none
  | k + 1, f, args, H => match orc f args with
    | some (v, X) => some (v, H ++ X)
    | none => match prog f with
      | some c => evFn (evCallO prog orc k) (fun body => iter body k) c args H
      | none => none
theorem evCallO_le {prog : Nat → Option CFn} {orc : Nat → List AV → Option (AV × Heap)} (h : ∀ f args v X, orc f args = some (v, X) → ∀ H, evC prog f args H = some (v, H ++ X)) : ∀ n, CallLe (evCallO prog orc n) (evC prog)
  | 0, f, args, H, r, hx => by simp [evCallO] at hx
  | n + 1, f, args, H, r, hx => by
    simp only [evCallO] at hx
    cases ho : orc f args with
    | some p =>
      obtain ⟨v, X⟩ := p
      rw [ho] at hx
      cases hx
      exact h f args v X ho H
    | none =>
      rw [ho] at hx
      simp only at hx
      cases hc : prog f with
      | none => rw [hc] at hx; cases hx
      | some c =>
        rw [hc] at hx
        rw [evC_fn hc]
        exact evFn_le (evCallO_le h n) (fun b1 b2 hb s r hr => itLim_some.2 ⟨n, iter_le hb n n (Nat.le_refl _) s r hr⟩) hx
end Go.Proofs.YtbdpceigmnpoaaaGreatDoor.Ev
namespace Go.Proofs.YtbdpceigmnpoaaaGreatDoor.Code
open Go.Proofs.YtbdpceigmnpoaaaGreatDoor.Ev

/-- the base of the chapter's example -/
def shop : Base := ⟨⟨#[83, 72, 79, 80]⟩, 4, [
  ⟨⟨#[67, 85, 83, 84]⟩, -1, 1, 10, [⟨⟨#[67, 85, 83, 84, 78, 79]⟩, 0, 1⟩], 0, true, false⟩,
  ⟨⟨#[79, 82, 68, 69, 82]⟩, 0, 1, 12, [⟨⟨#[79, 82, 68, 78, 79]⟩, 0, 1⟩], 0, true, false⟩,
  ⟨⟨#[73, 84, 69, 77]⟩, 1, 1, 8, [], -1, false, true⟩,
  ⟨⟨#[80, 72, 79, 78, 69]⟩, 0, 1, 8, [], -1, false, false⟩], []⟩
theorem shop_ok : shop.Ok := by
  refine ⟨by decide, by decide, fun t ht => ?_, by decide, fun x hx => by cases hx⟩
  simp only [shop, List.mem_cons, List.not_mem_nil, or_false] at ht
  rcases ht with rfl | rfl | rfl | rfl
  all_goals
    refine ⟨by decide, by decide, fun f hf => ?_⟩
    first | (cases hf; done) | (simp only [List.mem_cons, List.not_mem_nil, or_false] at hf; subst hf; exact ⟨by decide⟩)
theorem e75 (b : Base) (hb : b.Ok) (H : Heap) : evC cprog 75 [eBase b] H = some (.bool (validB b), H ++ [bBase b]) := by
  rw [evC_fn at75]
  have h1 := f113 b.name hb.name
  have h2 := f114 b.types hb.type
  have h3 := f115 b.types b.indexes hb.indexes hb.index
  simp only [c75, eBase, h1, h2, h3, bBase, evX, Int.reduceEq, Int.reduceLT, Int.reduceLE, Nat.reduceMul, Nat.reduceMod, evW, fn_eq, evR, Nat.reduceAdd, Nat.reduceLT, Nat.reduceLeDiff, reduceIte, Nat.reduceEqDiff, reduceCtorEq, argEnv, eq_self, if_true, if_false]
  repeat' ((first | rw [guardK_cases] | rw [condK_bool] | rw [guardD_cases]); split <;> simp only [c75, eBase, h1, h2, h3, bBase, evX, Int.reduceEq, Int.reduceLT, Int.reduceLE, Nat.reduceMul, Nat.reduceMod, evW, evR, Nat.reduceAdd, Nat.reduceLT, Nat.reduceLeDiff, reduceIte, Nat.reduceEqDiff, reduceCtorEq, argEnv, eq_self, if_true, if_false, *])
  all_goals (simp_all [validB]; try (intros; omega))
theorem shop_valid : validB shop = true := by
  have h1 : evCall cprog 100 75 [eBase shop] [] = some (.bool true, [bBase shop]) := by kernel_rfl
  have h2 := evC_of h1
  rw [e75 shop shop_ok] at h2
  simpa using h2
def orc75 (f : Nat) (args : List AV) : Option (AV × Heap) := if f = 75 then (if AV.beqL args [eBase shop] = true then some (.bool true, [bBase shop]) else none) else none
theorem orc_ok (f : Nat) (args : List AV) (v : AV) (X : Heap) (h : orc75 f args = some (v, X)) (H : Heap) : evC cprog f args H = some (v, H ++ X) := by
  unfold orc75 at h
  split at h
  case isFalse => cases h
  rename_i hf
  split at h
  case isFalse => cases h
  rename_i ha
  cases h
  rw [AV.eq_of_beqL _ _ ha, hf, e75 shop shop_ok, shop_valid]
theorem first_run : evCallO cprog orc75 300 10 [] [] = some (.bool true, []) := by kernel_rfl
theorem closed_any {call it} {c : CFn} {b : Bool} (hc : c.closed = true) (h : evFn call it c [] [] = some (.bool b, [])) (H : Heap) : evFn call it c [] H = some (.bool b, H) := by
  unfold evFn at h ⊢
  rw [if_pos hc] at h ⊢
  simp only at h ⊢
  split at h
  · cases h; rfl
  · cases h
theorem f10 (H : Heap) : cal (evC cprog) false 10 [] H = some (.bool true, H) := by
  have h := evCallO_le orc_ok 300 10 [] [] _ first_run
  rw [evC_fn at10] at h
  rw [cal_of at10, closed_any rfl h H, calK_f, gc_same]
end Go.Proofs.YtbdpceigmnpoaaaGreatDoor.Code

/- The law CallFirst is true. -/
set_option linter.unusedSimpArgs false
set_option linter.unusedVariables false
namespace Go.Proofs.YtbdpceigmnpoaaaGreatDoor.Code
open Go.Proofs.YtbdpceigmnpoaaaGreatDoor.Ev Go.RowKit

end Go.Proofs.YtbdpceigmnpoaaaGreatDoor.Code
namespace Go.Proofs.YtbdpceigmnpoaaaGreatDoor.Pure
open Go.Proofs.YtbdpceigmnpoaaaGreatDoor.Ev Go.Proofs.YtbdpceigmnpoaaaGreatDoor.Code
end Go.Proofs.YtbdpceigmnpoaaaGreatDoor.Pure

