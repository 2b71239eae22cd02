/- Texts of ours, joined into one file; each begins with its own remark. -/
import Derived.Test.YtbdpceigmnpoaaaGreatDoorU2
/- The law CallSatisfies is true. -/
set_option linter.unusedSimpArgs false
set_option linter.unusedVariables false
namespace Go.Proofs.YtbdpceigmnpoaaaGreatDoor.Code
open Go.Proofs.YtbdpceigmnpoaaaGreatDoor.Ev Go.RowKit

def smallG (a : Ar) : Bool := a.whn.all fun g => decide ((g.length : Int) ≤ 6)
def smallR (a : Ar) : Bool := decide ((a.whn.length : Int) ≤ 6) && decide ((a.codes.size : Int) ≤ 10) && smallG a
def smallA (l : List Ar) : Bool := l.all smallR && decide ((l.length : Int) ≤ 8)
theorem l31_0 (l : List Ar) (j : Nat) (a : Ar) (hj : l[j]? = some a) (h6 : (a.whn.length : Int) ≤ 6) (H : Heap) (st : St) (G : Heap) (hE : keepEnv st.1 [0, 3, 4] = [(0, eArs l), (3, .int .i64 (j : Int)), (4, .int .i64 0)]) (hH : st.2 = H ++ ([] ++ G)) (z : Option (CX × St)) (hz : itLim (evCode (evC cprog) itLim c31_l0) st = z) :
    (smallG a = true ∧ Lv H [] (fun c T => c = .exit 2 ∧ keepEnv T [0, 3] = [(0, eArs l), (3, .int .i64 (j : Int))]) z) ∨ (smallG a = false ∧ Lv H [] (fun c T => c = .ret ∧ get T 2 = some (.bool false)) z) := by
  have haa := aAr hj
  have hlen := (sGrs [] a.whn).len
  simp only [List.length_map] at hlen
  exact all_rule a.whn (fun g => decide ((g.length : Int) ≤ 6)) [0, 3, 4] (fun i => [(0, eArs l), (3, .int .i64 (j : Int)), (4, .int .i64 (i : Int))]) H [] (evCode (evC cprog) itLim c31_l0) _ _
    (fun i g hx E G hE => by
      have hlt : i < a.whn.length := (List.getElem?_eq_some_iff.1 hx).1
      have hi : (i : Int) < (a.whn.length : Int) := by omega
      have hag := aGr hx
      have hw := wrapS (i := i) (n := 7) (by omega) (by omega)
      have hgl := (sTms [] g).len
      simp only [List.length_map] at hgl
      by_cases n1 : (6 : Int) < (g.length : Int)
      · simp only [c31_l0, hE, hi, haa, rAr, hlen, hag, rGr, hgl, n1, evX, Int.reduceEq, Int.reduceLT, Int.reduceLE, Nat.reduceMul, Nat.reduceMod, evW, fn_eq, evR, Nat.reduceAdd, Nat.reduceLT, Nat.reduceLeDiff, reduceIte, Nat.reduceEqDiff, reduceCtorEq, argEnv, eq_self, if_true, if_false]
        exact Sc.ret (by simp; omega) ⟨rfl, rfl⟩
      · simp only [c31_l0, hE, hi, haa, rAr, hlen, hag, rGr, hgl, n1, hw, evX, Int.reduceEq, Int.reduceLT, Int.reduceLE, Nat.reduceMul, Nat.reduceMod, evW, fn_eq, evR, Nat.reduceAdd, Nat.reduceLT, Nat.reduceLeDiff, reduceIte, Nat.reduceEqDiff, reduceCtorEq, argEnv, eq_self, if_true, if_false]
        exact Sc.next (by simp; omega) (by rfl))
    (fun E G hE => by
      simp only [c31_l0, hE, haa, rAr, hlen, Int.lt_irrefl, evX, Int.reduceEq, Int.reduceLT, Int.reduceLE, Nat.reduceMul, Nat.reduceMod, evW, fn_eq, evR, Nat.reduceAdd, Nat.reduceLT, Nat.reduceLeDiff, reduceIte, Nat.reduceEqDiff, reduceCtorEq, argEnv, eq_self, if_true, if_false]
      exact .exit (K := []) ⟨rfl, by rfl⟩) st G hE hH z hz
theorem f31 (l : List Ar) (hl : l.length < 9223372036854775807) (H : Heap) : cal (evC cprog) false 31 [eArs l] H = some (.bool (smallA l), H) := by
  rw [cal_of at31]
  have hlen := (sArs [] l).len
  simp only [List.length_map] at hlen
  simp only [c31, evX, Int.reduceEq, Int.reduceLT, Int.reduceLE, Nat.reduceMul, Nat.reduceMod, evW, fn_eq, evR, Nat.reduceAdd, Nat.reduceLT, Nat.reduceLeDiff, reduceIte, Nat.reduceEqDiff, reduceCtorEq, argEnv, eq_self, if_true, if_false]
  generalize hz : itLim _ _ = z
  have L := all_rule l smallR [0, 3] (fun i => [(0, eArs l), (3, .int .i64 (i : Int))]) H [] (evCode (evC cprog) itLim c31_l1) (fun c T => c = .exit 0 ∧ keepEnv T [0] = [(0, eArs l)]) (fun c T => c = .ret ∧ get T 2 = some (.bool false))
    (fun i a hx E G hE => by
      have hlt : i < l.length := (List.getElem?_eq_some_iff.1 hx).1
      have hi : (i : Int) < (l.length : Int) := by omega
      have haa := aAr hx
      have hw := wrapS hlt hl
      have hwl := (sGrs [] a.whn).len
      simp only [List.length_map] at hwl
      by_cases n1 : (6 : Int) < (a.whn.length : Int)
      · simp only [c31_l1, hE, hi, hlen, haa, rAr, hwl, n1, evX, Int.reduceEq, Int.reduceLT, Int.reduceLE, Nat.reduceMul, Nat.reduceMod, evW, fn_eq, evR, Nat.reduceAdd, Nat.reduceLT, Nat.reduceLeDiff, reduceIte, Nat.reduceEqDiff, reduceCtorEq, argEnv, eq_self, if_true, if_false]
        exact Sc.ret (by simp [smallR]; omega) ⟨rfl, rfl⟩
      by_cases n2 : (10 : Int) < (a.codes.size : Int)
      · simp only [c31_l1, hE, hi, hlen, haa, rAr, hwl, n1, n2, evX, Int.reduceEq, Int.reduceLT, Int.reduceLE, Nat.reduceMul, Nat.reduceMod, evW, fn_eq, evR, Nat.reduceAdd, Nat.reduceLT, Nat.reduceLeDiff, reduceIte, Nat.reduceEqDiff, reduceCtorEq, argEnv, eq_self, if_true, if_false]
        exact Sc.ret (by simp [smallR]; omega) ⟨rfl, rfl⟩
      have e : smallR a = smallG a := by simp only [smallR, decide_eq_true (show (a.whn.length : Int) ≤ 6 by omega), decide_eq_true (show (a.codes.size : Int) ≤ 10 by omega), Bool.true_and]
      rw [e]
      simp only [c31_l1, hE, hi, hlen, haa, rAr, hwl, n1, n2, evX, Int.reduceEq, Int.reduceLT, Int.reduceLE, Nat.reduceMul, Nat.reduceMod, evW, fn_eq, evR, Nat.reduceAdd, Nat.reduceLT, Nat.reduceLeDiff, reduceIte, Nat.reduceEqDiff, reduceCtorEq, argEnv, eq_self, if_true, if_false]
      generalize hz : itLim _ _ = z
      rcases l31_0 l i a hx (by omega) H _ G (by rfl) (by simp) z hz with ⟨ha, c, T, G', rfl, _, rfl, hT⟩ | ⟨ha, c, T, G', rfl, _, rfl, hT⟩
      · rw [ha]
        simp only [hT, hw, evX, Int.reduceEq, Int.reduceLT, Int.reduceLE, Nat.reduceMul, Nat.reduceMod, evW, fn_eq, evR, Nat.reduceAdd, Nat.reduceLT, Nat.reduceLeDiff, reduceIte, Nat.reduceEqDiff, reduceCtorEq, argEnv, eq_self, if_true, if_false]
        exact Sc.next rfl (by rfl)
      · rw [ha]
        simp only [evX, Int.reduceEq, Int.reduceLT, Int.reduceLE, Nat.reduceMul, Nat.reduceMod, evW, fn_eq, evR, Nat.reduceAdd, Nat.reduceLT, Nat.reduceLeDiff, reduceIte, Nat.reduceEqDiff, reduceCtorEq, argEnv, eq_self, if_true, if_false]
        exact Sc.ret rfl ⟨rfl, hT⟩)
    (fun E G hE => by
      simp only [c31_l1, hE, hlen, Int.lt_irrefl, evX, Int.reduceEq, Int.reduceLT, Int.reduceLE, Nat.reduceMul, Nat.reduceMod, evW, fn_eq, evR, Nat.reduceAdd, Nat.reduceLT, Nat.reduceLeDiff, reduceIte, Nat.reduceEqDiff, reduceCtorEq, argEnv, eq_self, if_true, if_false]
      exact .exit (K := []) ⟨rfl, by rfl⟩) _ [] (by rfl) (by simp) z hz
  rcases L with ⟨ha, c, T, G, rfl, _, rfl, hT⟩ | ⟨ha, c, T, G, rfl, _, rfl, hT⟩
  · simp only [hT, hlen, evX, Int.reduceEq, Int.reduceLT, Int.reduceLE, Nat.reduceMul, Nat.reduceMod, evW, fn_eq, evR, Nat.reduceAdd, Nat.reduceLT, Nat.reduceLeDiff, reduceIte, Nat.reduceEqDiff, reduceCtorEq, argEnv, eq_self, if_true, if_false]
    simp [smallA, ha]
  · simp only [hT, evX, Int.reduceEq, Int.reduceLT, Int.reduceLE, Nat.reduceMul, Nat.reduceMod, evW, fn_eq, evR, Nat.reduceAdd, Nat.reduceLT, Nat.reduceLeDiff, reduceIte, Nat.reduceEqDiff, reduceCtorEq, argEnv, eq_self, if_true, if_false]
    simp [smallA, ha]
theorem open_Tm {r : List AV} (h : HasL [.str, .int .i64, .str] r) : ∃ x : Tm, r = rTm x ∧ True := by
  simp only [HasL.eq_2, HasL.eq_1, Has] at h
  obtain ⟨_, _, rfl, ⟨s, rfl, _⟩, _, _, rfl, ⟨n, rfl, _⟩, _, _, rfl, ⟨v, rfl, _⟩, rfl⟩ := h
  exact ⟨⟨s, n, v⟩, rfl, trivial⟩
theorem open_Gr {r : List AV} (h : HasL [.sl [.str, .int .i64, .str]] r) : ∃ g : List Tm, r = rGr g ∧ g.length < 9223372036854775807 := by
  simp only [HasL.eq_2, HasL.eq_1, Has] at h
  obtain ⟨_, _, rfl, ⟨l, rfl, hl, hr⟩, rfl⟩ := h
  obtain ⟨us, rfl, _⟩ := typed (P := HasL [.str, .int .i64, .str]) (fun r h => open_Tm h) l (fun r h => by simpa only [HasL.eq_2, HasL.eq_1, Has] using hr r h)
  exact ⟨us, rfl, reach_lt (by simpa using hl)⟩
theorem open_Ar {r : List AV} (h : HasL [.str, .str, .sl [.sl [.str, .int .i64, .str]]] r) : ∃ a : Ar, r = rAr a ∧ a.Ok := by
  simp only [HasL.eq_2, HasL.eq_1, Has] at h
  obtain ⟨_, _, rfl, ⟨s, rfl, _⟩, _, _, rfl, ⟨c, rfl, hc⟩, _, _, rfl, ⟨l, rfl, hl, hr⟩, rfl⟩ := h
  obtain ⟨us, rfl, hq⟩ := typed (P := HasL [.sl [.str, .int .i64, .str]]) (fun r h => open_Gr h) l (fun r h => by simpa only [HasL.eq_2, HasL.eq_1, Has] using hr r h)
  exact ⟨⟨s, c, us⟩, rfl, ⟨reach_lt hc, reach_lt (by simpa using hl), hq⟩⟩
end Go.Proofs.YtbdpceigmnpoaaaGreatDoor.Code
namespace Go.Proofs.YtbdpceigmnpoaaaGreatDoor.Pure
open Go.Proofs.YtbdpceigmnpoaaaGreatDoor.Ev Go.Proofs.YtbdpceigmnpoaaaGreatDoor.Code
end Go.Proofs.YtbdpceigmnpoaaaGreatDoor.Pure

/- call: which calls get, change and hold; what is said; states with memory of their own. -/
set_option linter.unusedSimpArgs false
set_option linter.unusedVariables false
namespace Go.Proofs.YtbdpceigmnpoaaaGreatDoor.Code
open Go.Proofs.YtbdpceigmnpoaaaGreatDoor.Ev

def sGU : ByteArray := ⟨#[71, 85]⟩
def sGN : ByteArray := ⟨#[71, 78]⟩
def sGNP : ByteArray := ⟨#[71, 78, 80]⟩
def sGHU : ByteArray := ⟨#[71, 72, 85]⟩
def sGHN : ByteArray := ⟨#[71, 72, 78]⟩
def sGHNP : ByteArray := ⟨#[71, 72, 78, 80]⟩
def getsL : List ByteArray := [sGU, sGN, sGNP, sGHU, sGHN, sGHNP]
def getsB (d : ByteArray) : Bool := getsL.any fun x => decide (d = x)
theorem f100 (s : ByteArray) (H : Heap) (a : AV) (l : List ByteArray) (ha : SlAt H 1 a (l.map fun x => [.str x])) (hl : l.length < 9223372036854775807) : cal (evC cprog) false 100 [a, .str s] H = some (.bool (l.any fun x => decide (s = x)), H) := by
  rw [cal_of at100]
  have h133 := index_ok at133 s H a l ha hl
  have h := idxOf_nonneg (fun x => decide (s = x)) l
  simp only [c100, h133, h, evX, Int.reduceEq, Int.reduceLT, Int.reduceLE, Nat.reduceMul, Nat.reduceMod, evW, fn_eq, evR, Nat.reduceAdd, Nat.reduceLT, Nat.reduceLeDiff, reduceIte, Nat.reduceEqDiff, reduceCtorEq, argEnv, eq_self, if_true, if_false]
theorem f56 (d : ByteArray) (H : Heap) : cal (evC cprog) false 56 [.str d] H = some (.bool (getsB d), H) := by
  rw [cal_of at56]
  have h100 := f100 d (H ++ [⟨0, true, 9, 1, getsL.map fun x => [.str x]⟩]) (.ref H.length 0 1 0 6) getsL (.ref (rows := getsL.map fun x => [.str x]) (k := ⟨0, true, 9, 1, getsL.map fun x => [.str x]⟩) (by simp [curBlk]) fun i row hi => by
    refine ⟨?_, by simpa using hi⟩
    obtain ⟨y, _, rfl⟩ := List.mem_map.1 (List.mem_of_getElem? hi)
    rfl) (by decide)
  change cal _ _ _ _ _ = some (.bool (getsB d), _) at h100
  simp only [getsL, List.map_cons, List.map_nil, sGU, sGN, sGNP, sGHU, sGHN, sGHNP] at h100
  simp only [c56, h100, evX, Int.reduceEq, Int.reduceLT, Int.reduceLE, Nat.reduceMul, Nat.reduceMod, evW, fn_eq, evR, Nat.reduceAdd, Nat.reduceLT, Nat.reduceLeDiff, reduceIte, Nat.reduceEqDiff, reduceCtorEq, argEnv, eq_self, if_true, if_false]
def relS (s : Ste) : Ste := ⟨s.items, s.at', s.next, s.parent, false⟩
def sayA (st : ByteArray) : An := ⟨st, ⟨#[]⟩, 0, ⟨#[]⟩, ⟨#[]⟩⟩
def say (s : Ste) (st : ByteArray) : Ste × An := (relS s, sayA st)
def eR2 (r : Ste × An) : AV := .tup [eSte r.1, eAn r.2]
theorem f82 (s : Ste) (st : ByteArray) (H : Heap) : cal (evC cprog) false 82 [eSte s, .str st] H = some (eR2 (say s st), H) := by
  rw [cal_of at82]
  have hnr : noRef0 (eItems s.items) = true := rfl
  simp only [c82, eSte, rSte, hnr, evX, Int.reduceEq, Int.reduceLT, Int.reduceLE, Nat.reduceMul, Nat.reduceMod, evW, fn_eq, evR, Nat.reduceAdd, Nat.reduceLT, Nat.reduceLeDiff, reduceIte, Nat.reduceEqDiff, reduceCtorEq, argEnv, eq_self, if_true, if_false]
  rfl
/-- what a call is named, if it is well -/
theorem f125 (d : ByteArray) (c : UInt8) (h : d.data.toList[1]? = some c) (H : Heap) : cal (evC cprog) false 125 [.str d] H = some (.bool (decide ((c.toNat : Int) = 72)), H) := by
  rw [cal_of at125]
  have hix : idxK (some (.str d)) (some (.int .i64 1)) = some (.int .u8 (c.toNat : Int)) := idx_at d h
  simp only [c125, hix, evX, Int.reduceEq, Int.reduceLT, Int.reduceLE, Nat.reduceMul, Nat.reduceMod, evW, fn_eq, evR, Nat.reduceAdd, Nat.reduceLT, Nat.reduceLeDiff, reduceIte, Nat.reduceEqDiff, reduceCtorEq, argEnv, eq_self, if_true, if_false]
end Go.Proofs.YtbdpceigmnpoaaaGreatDoor.Code

/- call: the end of a subtree and the status of a step, as the book tells them; the parent that codes set. -/
set_option linter.unusedSimpArgs false
set_option linter.unusedVariables false
namespace Go.Proofs.YtbdpceigmnpoaaaGreatDoor.Code
open Go.Proofs.YtbdpceigmnpoaaaGreatDoor.Ev

theorem f105p (b : Base) (f : List Item) (hr : Right b f) (H : Heap) : ∃ Z, cal (evC cprog) false 105 [eBase b, eItems f] H = some (.ptr (H.length + 1) 0 6 0 0, H ++ Z) ∧ ∀ P : Heap, P.length = H.length → Bk b f (H.length + 1) (P ++ Z) := by
  obtain ⟨rv, X, h1, h2⟩ := o105 b f hr H
  refine ⟨_, h1, fun P hP => ⟨rv, .mk (by rw [← hP, at_app]; rfl), ?_⟩⟩
  have := out_slat h2 (P ++ [bBase b, bBk b f rv, litB, lasB f b.types.length f.length]) (by simp [hP]) fun r hr => by obtain ⟨_, _, rfl⟩ := List.mem_map.1 hr; rfl
  simpa only [opH, List.append_assoc, List.cons_append, List.nil_append] using this
def sGA : ByteArray := ⟨#[71, 65]⟩
def sGK : ByteArray := ⟨#[71, 75]⟩
/-- the status of a step to an item -/
def movS (b : Base) (f : List Item) (was : Int) (i : Nat) : ByteArray :=
  if was < 0 then sWell else if (pth b.types f i).length < (pth b.types f was.toNat).length then sGA else if (pth b.types f i).length = (pth b.types f was.toNat).length ∧ typ f (i : Int) ≠ typ f was then sGK else sWell
theorem f127 (b : Base) (f : List Item) (hr : Right b f) (p : Nat) (K : Heap) (hk : Bk b f p K) (was : Int) (hw : was < (f.length : Int)) (i : Nat) (hi : i < f.length) : cal (evC cprog) false 127 [.ptr p 0 6 0 0, .int .i64 was, .int .i64 (i : Int)] K = some (.str (movS b f was i), K) := by
  rw [cal_of at127]
  by_cases h0 : was < 0
  · have e : movS b f was i = sWell := if_pos h0
    rw [e]
    simp only [c127, h0, evX, Int.reduceEq, Int.reduceLT, Int.reduceLE, Nat.reduceMul, Nat.reduceMod, evW, fn_eq, evR, Nat.reduceAdd, Nat.reduceLT, Nat.reduceLeDiff, reduceIte, Nat.reduceEqDiff, reduceCtorEq, argEnv, eq_self, if_true, if_false]
    rfl
  · obtain ⟨m, rfl⟩ : ∃ m : Nat, was = (m : Int) := ⟨was.toNat, by omega⟩
    obtain ⟨pv, _, hp, _⟩ := hk.open
    have h1 := f108 b f hr p K hk m (by omega)
    have h2 := f108 b f hr p K hk i hi
    have l1 := (sIs [] (pth b.types f m)).len
    have l2 := (sIs [] (pth b.types f i)).len
    simp only [List.length_map] at l1 l2
    obtain ⟨x, hx⟩ : ∃ x, f[i]? = some x := ⟨_, List.getElem?_eq_getElem hi⟩
    obtain ⟨y, hy⟩ : ∃ y, f[m]? = some y := ⟨_, List.getElem?_eq_getElem (by omega)⟩
    have ax := aItem hx
    have ay := aItem hy
    have e : movS b f (m : Int) i = if (pth b.types f i).length < (pth b.types f m).length then sGA else if (pth b.types f i).length = (pth b.types f m).length ∧ x.type ≠ y.type then sGK else sWell := by
      unfold movS; rw [if_neg h0, Int.toNat_natCast, typ_at hx, typ_at hy]
    rw [e]
    by_cases c1 : (pth b.types f i).length < (pth b.types f m).length
    · have c1' : ((pth b.types f i).length : Int) < ((pth b.types f m).length : Int) := by omega
      rw [if_pos c1]
      simp only [c127, h0, h1, h2, l1, l2, c1', evX, Int.reduceEq, Int.reduceLT, Int.reduceLE, Nat.reduceMul, Nat.reduceMod, evW, fn_eq, evR, Nat.reduceAdd, Nat.reduceLT, Nat.reduceLeDiff, reduceIte, Nat.reduceEqDiff, reduceCtorEq, argEnv, eq_self, if_true, if_false]
      rfl
    · have c1' : ¬ ((pth b.types f i).length : Int) < ((pth b.types f m).length : Int) := by omega
      rw [if_neg c1]
      by_cases c2 : (pth b.types f i).length = (pth b.types f m).length
      · have c2' : (((pth b.types f i).length : Int) = ((pth b.types f m).length : Int)) = True := eq_true (by omega)
        by_cases c3 : x.type = y.type
        · rw [if_neg (fun h => h.2 c3)]
          simp only [c127, nilck_ptr, h0, h1, h2, l1, l2, c1', c2', hp, ax, ay, rItem, c3, evX, Int.reduceEq, Int.reduceLT, Int.reduceLE, Nat.reduceMul, Nat.reduceMod, evW, fn_eq, evR, Nat.reduceAdd, Nat.reduceLT, Nat.reduceLeDiff, reduceIte, Nat.reduceEqDiff, reduceCtorEq, argEnv, eq_self, if_true, if_false]
          rfl
        · rw [if_pos ⟨c2, c3⟩]
          simp only [c127, nilck_ptr, h0, h1, h2, l1, l2, c1', c2', hp, ax, ay, rItem, c3, evX, Int.reduceEq, Int.reduceLT, Int.reduceLE, Nat.reduceMul, Nat.reduceMod, evW, fn_eq, evR, Nat.reduceAdd, Nat.reduceLT, Nat.reduceLeDiff, reduceIte, Nat.reduceEqDiff, reduceCtorEq, argEnv, eq_self, if_true, if_false]
          rfl
      · have c2' : ¬ ((pth b.types f i).length : Int) = ((pth b.types f m).length : Int) := by omega
        rw [if_neg (fun h => c2 h.1)]
        simp only [c127, nilck_ptr, h0, h1, h2, l1, l2, c1', c2', evX, Int.reduceEq, Int.reduceLT, Int.reduceLE, Nat.reduceMul, Nat.reduceMod, evW, fn_eq, evR, Nat.reduceAdd, Nat.reduceLT, Nat.reduceLeDiff, reduceIte, Nat.reduceEqDiff, reduceCtorEq, argEnv, eq_self, if_true, if_false]
        rfl
/-- the parent that the codes P set -/
def parF (b : Base) (f : List Item) (i : Nat) (p0 : Int) (l : List Ar) : Int := l.foldl (fun p a => if hasC a 80 = true then onI b f (i : Int) (tyIx b.types a.seg) else p) p0
theorem parF_step {b : Base} {f : List Item} {i : Nat} {p0 : Int} {l : List Ar} {k : Nat} {a : Ar} (h : l[k]? = some a) : parF b f i p0 (l.take (k + 1)) = if hasC a 80 = true then onI b f (i : Int) (tyIx b.types a.seg) else parF b f i p0 (l.take k) := by
  unfold parF
  rw [List.take_add_one, h, List.foldl_append]; rfl
def bSte (s : Ste) : Blk := ⟨0, true, 35, 5, [rSte s]⟩
def bCl (c : Cl) : Blk := ⟨0, true, 31, 3, [rCl c]⟩
def bSte0 : Blk := ⟨0, true, 35, 5, [[.nils, .int .i64 0, .int .i64 0, .int .i64 0, .bool false]]⟩
def bAnn (a : An) : Blk := ⟨0, true, 49, 5, [rAn a]⟩
def gtH (b : Base) (c : Cl) (H Z : Heap) (s : Ste) (A : An) (G : Heap) : Heap := H ++ (bBase b :: bSte s :: bCl c :: bSte0 :: bAn0 :: (Z ++ (bAnn A :: G)))
theorem at_deep {α : Type} (a b c d e x y : α) (Z G : List α) : (a :: b :: c :: d :: e :: (Z ++ (x :: (G ++ [y]))))[Z.length + (G.length + 6)]? = some y := by
  rw [show Z.length + (G.length + 6) = (Z.length + (G.length + 1)) + 1 + 1 + 1 + 1 + 1 by omega]
  simp only [List.getElem?_cons_succ]
  rw [List.getElem?_append_right (by omega), show Z.length + (G.length + 1) - Z.length = G.length + 1 by omega, List.getElem?_cons_succ, List.getElem?_append_right (Nat.le_refl _)]
  simp
theorem set_deep {α : Type} (a b c d e x y w : α) (Z G : List α) : (a :: b :: c :: d :: e :: (Z ++ (x :: (G ++ [y])))).set (Z.length + (G.length + 6)) w = a :: b :: c :: d :: e :: (Z ++ (x :: (G ++ [w]))) := by
  rw [show Z.length + (G.length + 6) = (Z.length + (G.length + 1)) + 1 + 1 + 1 + 1 + 1 by omega]
  simp only [List.set_cons_succ]
  rw [List.set_append_right _ _ (by omega), show Z.length + (G.length + 1) - Z.length = G.length + 1 by omega, List.set_cons_succ, List.set_append_right _ _ (Nat.le_refl _)]
  simp
theorem at_five {α : Type} (a b c d e x : α) (Z G : List α) : (a :: b :: c :: d :: e :: (Z ++ (x :: G)))[Z.length + 5]? = some x := by
  simp only [List.getElem?_cons_succ]
  rw [List.getElem?_append_right (Nat.le_refl _)]
  simp
theorem set_five {α : Type} (a b c d e x w : α) (Z G : List α) : (a :: b :: c :: d :: e :: (Z ++ (x :: G))).set (Z.length + 5) w = a :: b :: c :: d :: e :: (Z ++ (w :: G)) := by
  simp only [List.set_cons_succ]
  rw [List.set_append_right _ _ (Nat.le_refl _)]
  simp
set_option maxHeartbeats 4000000 in
theorem l88 (b : Base) (f : List Item) (hr : Right b f) (l : List Ar) (hl5 : l.length ≤ 1000) (i : Nat) (hi : i < f.length) (H Z : Heap) (hB : ∀ P : Heap, P.length = H.length + 5 → Bk b f (H.length + 6) (P ++ Z)) (c : Cl) (F : List Item) (a0 n0 p0 : Int) (h0 : Bool) (A : An) (st : St)
    (hE : keepEnv st.1 [3, 5, 8, 9, 10, 14, 15, 120, 121, 122] = [(3, eIs (tysA b.types l)), (5, .ptr (H.length + 1) 0 5 0 0), (8, .ptr (H.length + 3) 0 5 0 0), (9, .ptr (H.length + 4) 0 5 0 0), (10, .ptr (H.length + 6) 0 6 0 0), (14, .int .i64 (i : Int)), (15, .ptr (H.length + (Z.length + 5)) 0 5 0 0), (120, eArs l), (121, .int .i64 (l.length : Int)), (122, .int .i64 0)])
    (hH : st.2 = gtH b c H Z ⟨F, a0, n0, p0, h0⟩ A []) (z : Option (CX × St)) (hz : itLim (evCode (evC cprog) itLim c88_l0) st = z) :
    ∃ T G, z = some (.exit 2, T, gtH b c H Z ⟨F, a0, n0, parF b f i p0 l, h0⟩ A G) ∧ keepEnv T [5, 8, 9, 15] = [(5, .ptr (H.length + 1) 0 5 0 0), (8, .ptr (H.length + 3) 0 5 0 0), (9, .ptr (H.length + 4) 0 5 0 0), (15, .ptr (H.length + (Z.length + 5)) 0 5 0 0)] := by
  have L := loop_rule (σ := Nat × Heap) (m := [3, 5, 8, 9, 10, 14, 15, 120, 121, 122]) (env := fun s => [(3, eIs (tysA b.types l)), (5, .ptr (H.length + 1) 0 5 0 0), (8, .ptr (H.length + 3) 0 5 0 0), (9, .ptr (H.length + 4) 0 5 0 0), (10, .ptr (H.length + 6) 0 6 0 0), (14, .int .i64 (i : Int)), (15, .ptr (H.length + (Z.length + 5)) 0 5 0 0), (120, eArs l), (121, .int .i64 (l.length : Int)), (122, .int .i64 (s.1 : Int))]) (hp := fun s => gtH b c H Z ⟨F, a0, n0, parF b f i p0 (l.take s.1), h0⟩ A s.2)
    (P := fun _ r => ∃ T G, r = (.exit 2, T, gtH b c H Z ⟨F, a0, n0, parF b f i p0 l, h0⟩ A G) ∧ keepEnv T [5, 8, 9, 15] = [(5, .ptr (H.length + 1) 0 5 0 0), (8, .ptr (H.length + 3) 0 5 0 0), (9, .ptr (H.length + 4) 0 5 0 0), (15, .ptr (H.length + (Z.length + 5)) 0 5 0 0)])
    (mu := fun s => l.length - s.1) (I := fun s => s.1 ≤ l.length) (evCode (evC cprog) itLim c88_l0) ?_ (0, []) st (Nat.zero_le _) hE hH z hz
  · obtain ⟨_, rfl, T, G, rfl, hT⟩ := L
    exact ⟨T, G, rfl, hT⟩
  · rintro ⟨k, G⟩ hk E hE
    simp only at hk hE
    by_cases hlt : k < l.length
    · obtain ⟨a, ha⟩ : ∃ a, l[k]? = some a := ⟨_, List.getElem?_eq_getElem hlt⟩
      have hkl : (k : Int) < (l.length : Int) := by omega
      have haa := aAr ha
      have haT := aI (tysA_at (ts := b.types) ha)
      have hw := wrapS hlt (by omega)
      have hst := parF_step (b := b) (f := f) (i := i) (p0 := p0) ha
      have h111 : ∀ H, cal (evC cprog) false 111 [.agg (rAr a), .int .u8 80] H = some (.bool (hasC a 80), H) := fun H => f111 a 80 H
      have hBk := (hB (H ++ [bBase b, bSte ⟨F, a0, n0, parF b f i p0 (l.take k), h0⟩, bCl c, bSte0, bAn0]) (by simp)).app (bAnn A :: (G ++ [⟨0, true, 82, 3, [rAr a]⟩]))
      have h69 := f69 b f hr _ _ hBk (i : Int) (by omega) (by omega) (tyIx b.types a.seg)
      simp only [gtH, bBase, bSte, bCl, bSte0, bAn0, bAnn, rSte, rCl, rAn, rAr, List.append_assoc, List.cons_append, List.nil_append] at h69 h111 ⊢
      generalize parF b f i p0 (l.take k) = pk at *
      cases hP : hasC a 80 with
      | true =>
        rw [hP] at h111
        rw [hP, if_pos rfl] at hst
        simp only [c88_l0, hE, hkl, haa, haT, rAr, rI, h111, h69, hw, at_deep, set_deep, evX, Int.reduceEq, Int.reduceLT, Int.reduceLE, Nat.reduceMul, Nat.reduceMod, evW, fn_eq, evR, Nat.reduceAdd, Nat.reduceLT, Nat.reduceLeDiff, reduceIte, Nat.reduceEqDiff, reduceCtorEq, argEnv, eq_self, if_true, if_false]
        exact q_next (k + 1, G ++ [⟨0, true, 82, 3, [[.str a.seg, .str a.codes, eGrs a.whn]]⟩]) (by rfl) (by simp only [hst]) hlt (by simp only; omega) fun r h => h
      | false =>
        rw [hP] at h111
        rw [hP, if_neg (by decide)] at hst
        simp only [c88_l0, hE, hkl, haa, haT, rAr, rI, h111, hw, at_deep, set_deep, evX, Int.reduceEq, Int.reduceLT, Int.reduceLE, Nat.reduceMul, Nat.reduceMod, evW, fn_eq, evR, Nat.reduceAdd, Nat.reduceLT, Nat.reduceLeDiff, reduceIte, Nat.reduceEqDiff, reduceCtorEq, argEnv, eq_self, if_true, if_false]
        exact q_next (k + 1, G ++ [⟨0, true, 82, 3, [[.str a.seg, .str a.codes, eGrs a.whn]]⟩]) (by rfl) (by simp only [hst]) hlt (by simp only; omega) fun r h => h
    · have hkl : ¬ (k : Int) < (l.length : Int) := by omega
      rw [List.take_of_length_le (by omega)]
      simp only [c88_l0, hE, hkl, evX, Int.reduceEq, Int.reduceLT, Int.reduceLE, Nat.reduceMul, Nat.reduceMod, evW, fn_eq, evR, Nat.reduceAdd, Nat.reduceLT, Nat.reduceLeDiff, reduceIte, Nat.reduceEqDiff, reduceCtorEq, argEnv, eq_self, if_true, if_false]
      exact q_exit ⟨_, G, rfl, by rfl⟩
end Go.Proofs.YtbdpceigmnpoaaaGreatDoor.Code

/- call: the calls that get, by the program. -/
set_option linter.unusedSimpArgs false
set_option linter.unusedVariables false
namespace Go.Proofs.YtbdpceigmnpoaaaGreatDoor.Code
open Go.Proofs.YtbdpceigmnpoaaaGreatDoor.Ev

def sGP : ByteArray := ⟨#[71, 80]⟩
def sGE : ByteArray := ⟨#[71, 69]⟩
def sGB : ByteArray := ⟨#[71, 66]⟩
def holD (d : ByteArray) : Bool := decide (d = sGHU) || decide (d = sGHN) || decide (d = sGHNP)
def uniD (d : ByteArray) : Bool := decide (d = sGU) || decide (d = sGHU)
def witD (d : ByteArray) : Bool := decide (d = sGNP) || decide (d = sGHNP)
/-- the answer with a status of its own -/
def an1 (st : ByteArray) (a : An) : An := ⟨st, a.seg, a.level, a.key, a.data⟩
def foundS (b : Base) (s : Ste) (l : List Ar) (hold uni wit : Bool) (i : Nat) : Ste × An :=
  (⟨s.items, (i : Int), (i : Int) + 1, parF b s.items i (if wit = true then s.parent else (i : Int)) l, hold⟩,
   an1 (if uni = false ∧ l = [] then movS b s.items s.at' i else sWell) (ansB b s.items l i))
def frmS (s : Ste) (uni wit : Bool) : Int := if uni = true then 0 else if wit = true then max s.next (s.parent + 1) else s.next
def toS (b : Base) (s : Ste) (wit : Bool) : Int := if wit = true then (endOf b.types s.items s.parent.toNat : Int) else (s.items.length : Int)
noncomputable def getK (b : Base) (s : Ste) (l : List Ar) (hold uni wit : Bool) : Ste × An :=
  if wit = true ∧ s.parent < 0 then say s sGP else
  if srchB b s.items l (frmS s uni wit) (toS b s wit) < 0 then (if uni = false ∧ wit = false ∧ l = [] then (staF s.items, sayA sGB) else say s sGE)
  else foundS b s l hold uni wit (srchB b s.items l (frmS s uni wit) (toS b s wit)).toNat
noncomputable def getS (b : Base) (s : Ste) (c : Cl) : Ste × An := getK b s c.args (holD c.do') (uniD c.do') (witD c.do')
theorem srchB_cases (b : Base) (f : List Item) (l : List Ar) (i j : Int) (hi : 0 ≤ i) : srchB b f l i j = -1 ∨ ∃ n : Nat, srchB b f l i j = (n : Int) ∧ i ≤ (n : Int) ∧ (n : Int) < j := by
  unfold srchB
  rcases srch_cases (satB b f l) (j - i).toNat i.toNat with ⟨h, _⟩ | ⟨n, h, h1, h2, _⟩
  · exact .inl h
  · exact .inr ⟨n, h, by omega, by omega⟩
theorem k125 : ∀ H, cal (evC cprog) false 125 [.str sGU] H = some (.bool false, H) ∧ cal (evC cprog) false 125 [.str sGN] H = some (.bool false, H) ∧ cal (evC cprog) false 125 [.str sGNP] H = some (.bool false, H) ∧
    cal (evC cprog) false 125 [.str sGHU] H = some (.bool true, H) ∧ cal (evC cprog) false 125 [.str sGHN] H = some (.bool true, H) ∧ cal (evC cprog) false 125 [.str sGHNP] H = some (.bool true, H) := fun H =>
  ⟨f125 sGU 85 rfl H, f125 sGN 78 rfl H, f125 sGNP 78 rfl H, f125 sGHU 72 rfl H, f125 sGHN 72 rfl H, f125 sGHNP 72 rfl H⟩
theorem cut_lit : evSlcs (⟨#[71, 72, 85]⟩ : ByteArray) (some 2) none = some (.str ⟨#[85]⟩) ∧ evSlcs (⟨#[71, 72, 78]⟩ : ByteArray) (some 2) none = some (.str ⟨#[78]⟩) ∧ evSlcs (⟨#[71, 72, 78, 80]⟩ : ByteArray) (some 2) none = some (.str ⟨#[78, 80]⟩) := ⟨rfl, rfl, rfl⟩
theorem app_lit : (⟨#[71]⟩ : ByteArray) ++ (⟨#[85]⟩ : ByteArray) = ⟨#[71, 85]⟩ ∧ (⟨#[71]⟩ : ByteArray) ++ (⟨#[78]⟩ : ByteArray) = ⟨#[71, 78]⟩ ∧ (⟨#[71]⟩ : ByteArray) ++ (⟨#[78, 80]⟩ : ByteArray) = ⟨#[71, 78, 80]⟩ := ⟨rfl, rfl, rfl⟩
theorem dec_lit : decide ((⟨#[71, 85]⟩ : ByteArray) = ⟨#[71, 85]⟩) = true ∧ decide ((⟨#[71, 78]⟩ : ByteArray) = ⟨#[71, 85]⟩) = false ∧ decide ((⟨#[71, 78, 80]⟩ : ByteArray) = ⟨#[71, 85]⟩) = false ∧
    decide ((⟨#[71, 85]⟩ : ByteArray) = ⟨#[71, 78, 80]⟩) = false ∧ decide ((⟨#[71, 78]⟩ : ByteArray) = ⟨#[71, 78, 80]⟩) = false ∧ decide ((⟨#[71, 78, 80]⟩ : ByteArray) = ⟨#[71, 78, 80]⟩) = true ∧
    decide ((⟨#[71, 85]⟩ : ByteArray) = ⟨#[71, 78]⟩) = false ∧ decide ((⟨#[71, 78]⟩ : ByteArray) = ⟨#[71, 78]⟩) = true ∧ decide ((⟨#[71, 78, 80]⟩ : ByteArray) = ⟨#[71, 78]⟩) = false := by decide
theorem siz_lit : ((⟨#[71]⟩ : ByteArray).size + (⟨#[85]⟩ : ByteArray).size ≤ 9223372036854775807) = True ∧ ((⟨#[71]⟩ : ByteArray).size + (⟨#[78]⟩ : ByteArray).size ≤ 9223372036854775807) = True ∧ ((⟨#[71]⟩ : ByteArray).size + (⟨#[78, 80]⟩ : ByteArray).size ≤ 9223372036854775807) = True := ⟨eq_true (by decide), eq_true (by decide), eq_true (by decide)⟩
theorem getK_no {b : Base} {s : Ste} {l : List Ar} {uni wit : Bool} (hold : Bool) (h : wit = true → ¬ s.parent < 0) (hq : srchB b s.items l (frmS s uni wit) (toS b s wit) = -1) : getK b s l hold uni wit = if uni = false ∧ wit = false ∧ l = [] then (staF s.items, sayA sGB) else say s sGE := by
  unfold getK
  rw [if_neg (fun g => h g.1 g.2), hq, if_pos (by decide)]
theorem getK_at {b : Base} {s : Ste} {l : List Ar} {uni wit : Bool} (hold : Bool) (h : wit = true → ¬ s.parent < 0) {i : Nat} (hq : srchB b s.items l (frmS s uni wit) (toS b s wit) = (i : Int)) : getK b s l hold uni wit = foundS b s l hold uni wit i := by
  unfold getK
  rw [if_neg (fun g => h g.1 g.2), hq, if_neg (by omega), Int.toNat_natCast]
/-- what a call that gets needs of a state -/
structure Gt (b : Base) (s : Ste) (l : List Ar) : Prop where
  hr : Right b s.items
  no : numOk s = true
  l5 : l.length ≤ 1000
  ok : ∀ a ∈ l, ArOk b.types a
theorem Gt.num {b : Base} {s : Ste} {l : List Ar} (g : Gt b s l) : -1 ≤ s.at' ∧ s.at' < (s.items.length : Int) ∧ 0 ≤ s.next ∧ s.next ≤ (s.items.length : Int) ∧ -1 ≤ s.parent ∧ s.parent < (s.items.length : Int) ∧ s.items.length ≤ 1000 := by
  have := g.no
  have := g.hr.len
  simp only [numOk, Bool.and_eq_true, decide_eq_true_eq] at *
  omega
set_option maxHeartbeats 16000000 in
theorem f88u (b : Base) (s : Ste) (c : Cl) (g : Gt b s c.args) (hd : c.do' = sGU ∨ c.do' = sGHU) (H : Heap) : cal (evC cprog) false 88 [eBase b, eSte s, eCl c, eIs (tysA b.types c.args)] H = some (eR2 (getS b s c), H) := by
  obtain ⟨f, a0, n0, p0, h0⟩ := s
  obtain ⟨d, l, t⟩ := c
  obtain ⟨m1, m2, m3, m4, m5, m6, hfl⟩ := g.num
  have hr := g.hr
  have hl5 := g.l5
  have hok := g.ok
  have hal := (sArs [] l).len
  have hfln := (sItems [] f).len
  simp only [List.length_map] at hr hl5 hok m1 m2 m3 m4 m5 m6 hfl hd hal hfln
  obtain ⟨Z, h105, hB⟩ := f105p b f hr (H ++ [bBase b, bSte ⟨f, a0, n0, p0, h0⟩, bCl ⟨d, l, t⟩, bSte0, bAn0])
  have hB0 := hB (H ++ [bBase b, bSte ⟨f, a0, n0, p0, h0⟩, bCl ⟨d, l, t⟩, bSte0, bAn0]) rfl
  have hB1 : ∀ P : Heap, P.length = H.length + 5 → Bk b f (H.length + 6) (P ++ Z) := fun P hP => by have := hB P (by simpa using hP); simpa using this
  have h125 := fun H => k125 H
  have h82 := f82 ⟨f, a0, n0, p0, h0⟩
  have h42 := f42 f hfl
  have hnr : noRef0 (eItems f) = true := rfl
  have hnrA : noRef0 (eArs l) = true := rfl
  rw [cal_of at88]
  have hq := srchB_cases b f l 0 (f.length : Int) (by omega)
  have h65 := f65 b f hr _ _ hB0 l (by omega) hok 0 (f.length : Int) (by omega) (by omega)
  rcases hq with hq | ⟨i, hq, hi1, hi2⟩
  · rw [hq] at h65
    simp only [eBase, eSte, rSte, eCl, rCl, bBase, bSte, bCl, bSte0, bAn0, sGU, sGHU, sGN, sGHN, sGNP, sGHNP, say, relS, sayA, staF, eR2, eAn, rAn, List.length_append, List.length_cons, List.length_nil, Nat.zero_add, Nat.add_assoc, Nat.reduceAdd, List.append_assoc, List.cons_append, List.nil_append] at h105 h65 h125 hd h82 h42
    rcases hd with rfl | rfl
    · have e1 : getS b ⟨f, a0, n0, p0, h0⟩ ⟨⟨#[71, 85]⟩, l, t⟩ = _ := getK_no (uni := true) (wit := false) false (fun h => nomatch h) hq
      rw [if_neg (by simp)] at e1
      rw [e1]
      simp only [c88, eBase, eSte, rSte, eCl, rCl, h125, h105, h65, h82, hnr, hnrA, p_slcs, slcsK_some, cut_lit, app_lit, siz_lit, dec_lit, hfln, hal, eR2, say, relS, sayA, eAn, rAn, evX, Int.reduceEq, Int.reduceLT, Int.reduceLE, Nat.reduceMul, Nat.reduceMod, evW, fn_eq, evR, Nat.reduceAdd, Nat.reduceLT, Nat.reduceLeDiff, reduceIte, Nat.reduceEqDiff, reduceCtorEq, argEnv, eq_self, if_true, if_false]
      rfl
    · have e1 : getS b ⟨f, a0, n0, p0, h0⟩ ⟨⟨#[71, 72, 85]⟩, l, t⟩ = _ := getK_no (uni := true) (wit := false) true (fun h => nomatch h) hq
      rw [if_neg (by simp)] at e1
      rw [e1]
      simp only [c88, eBase, eSte, rSte, eCl, rCl, h125, h105, h65, h82, hnr, hnrA, p_slcs, slcsK_some, cut_lit, app_lit, siz_lit, dec_lit, hfln, hal, eR2, say, relS, sayA, eAn, rAn, evX, Int.reduceEq, Int.reduceLT, Int.reduceLE, Nat.reduceMul, Nat.reduceMod, evW, fn_eq, evR, Nat.reduceAdd, Nat.reduceLT, Nat.reduceLeDiff, reduceIte, Nat.reduceEqDiff, reduceCtorEq, argEnv, eq_self, if_true, if_false]
      rfl
  · have hif : i < f.length := by omega
    have h70 := f70 b f hr _ _ hB0 l (by omega) (eArs l) (eIs (tysA b.types l)) (.inl rfl) hal (fun H => sIs H _) i hif
    have hwi := wrapS hif (by omega)
    have h127 := f127 b f hr _ _ ((hB0).app [bAnn (ansB b f l i)]) a0 m2 i hif
    rw [hq] at h65
    have hin : ¬ (i : Int) < 0 := by omega
    have hl88 := fun A p1 hh z st hE hH => l88 b f hr l hl5 i hif H Z hB1 ⟨d, l, t⟩ f (i : Int) ((i : Int) + 1) p1 hh A st hE hH z
    simp only [eBase, eSte, rSte, eCl, rCl, bBase, bSte, bCl, bSte0, bAn0, sGU, sGHU, sGN, sGHN, sGNP, sGHNP, say, relS, sayA, staF, eR2, eAn, rAn, List.length_append, List.length_cons, List.length_nil, Nat.zero_add, Nat.add_assoc, Nat.reduceAdd, List.append_assoc, List.cons_append, List.nil_append, bAnn] at h105 h65 h125 hd h82 h42 h70 h127
    rcases hd with rfl | rfl
    · have e1 : getS b ⟨f, a0, n0, p0, h0⟩ ⟨⟨#[71, 85]⟩, l, t⟩ = _ := getK_at (uni := true) (wit := false) false (fun h => nomatch h) hq
      rw [e1]
      simp only [c88, eBase, eSte, rSte, eCl, rCl, h125, h105, h65, hin, h70, h127, hwi, at_five, set_five, h82, hnr, hnrA, p_slcs, slcsK_some, cut_lit, app_lit, siz_lit, dec_lit, hfln, hal, eR2, say, relS, sayA, eAn, rAn, evX, Int.reduceEq, Int.reduceLT, Int.reduceLE, Nat.reduceMul, Nat.reduceMod, evW, fn_eq, evR, Nat.reduceAdd, Nat.reduceLT, Nat.reduceLeDiff, reduceIte, Nat.reduceEqDiff, reduceCtorEq, argEnv, eq_self, if_true, if_false]
      generalize hz : itLim _ _ = z
      obtain ⟨T, G, rfl, hT⟩ := hl88 (an1 sWell (ansB b f l i)) (i : Int) false z _ (by rfl) (by simp [gtH, bBase, bSte, bCl, bSte0, bAn0, bAnn, rSte, rCl, rAn, an1] <;> rfl) hz
      clear hz
      simp only [gtH, bBase, bSte, bCl, bSte0, bAn0, bAnn, rSte, rCl, rAn, an1]
      simp only [hT, at_five, hnr, evX, Int.reduceEq, Int.reduceLT, Int.reduceLE, Nat.reduceMul, Nat.reduceMod, evW, fn_eq, evR, Nat.reduceAdd, Nat.reduceLT, Nat.reduceLeDiff, reduceIte, Nat.reduceEqDiff, reduceCtorEq, argEnv, eq_self, if_true, if_false]
      simp only [foundS, an1, eR2, eSte, rSte, eAn, rAn]
      rfl
    · have e1 : getS b ⟨f, a0, n0, p0, h0⟩ ⟨⟨#[71, 72, 85]⟩, l, t⟩ = _ := getK_at (uni := true) (wit := false) true (fun h => nomatch h) hq
      rw [e1]
      simp only [c88, eBase, eSte, rSte, eCl, rCl, h125, h105, h65, hin, h70, h127, hwi, at_five, set_five, h82, hnr, hnrA, p_slcs, slcsK_some, cut_lit, app_lit, siz_lit, dec_lit, hfln, hal, eR2, say, relS, sayA, eAn, rAn, evX, Int.reduceEq, Int.reduceLT, Int.reduceLE, Nat.reduceMul, Nat.reduceMod, evW, fn_eq, evR, Nat.reduceAdd, Nat.reduceLT, Nat.reduceLeDiff, reduceIte, Nat.reduceEqDiff, reduceCtorEq, argEnv, eq_self, if_true, if_false]
      generalize hz : itLim _ _ = z
      obtain ⟨T, G, rfl, hT⟩ := hl88 (an1 sWell (ansB b f l i)) (i : Int) true z _ (by rfl) (by simp [gtH, bBase, bSte, bCl, bSte0, bAn0, bAnn, rSte, rCl, rAn, an1] <;> rfl) hz
      clear hz
      simp only [gtH, bBase, bSte, bCl, bSte0, bAn0, bAnn, rSte, rCl, rAn, an1]
      simp only [hT, at_five, hnr, evX, Int.reduceEq, Int.reduceLT, Int.reduceLE, Nat.reduceMul, Nat.reduceMod, evW, fn_eq, evR, Nat.reduceAdd, Nat.reduceLT, Nat.reduceLeDiff, reduceIte, Nat.reduceEqDiff, reduceCtorEq, argEnv, eq_self, if_true, if_false]
      simp only [foundS, an1, eR2, eSte, rSte, eAn, rAn]
      rfl
set_option maxHeartbeats 16000000 in
theorem f88n (b : Base) (s : Ste) (c : Cl) (g : Gt b s c.args) (hd : c.do' = sGN ∨ c.do' = sGHN) (H : Heap) : cal (evC cprog) false 88 [eBase b, eSte s, eCl c, eIs (tysA b.types c.args)] H = some (eR2 (getS b s c), H) := by
  obtain ⟨f, a0, n0, p0, h0⟩ := s
  obtain ⟨d, l, t⟩ := c
  obtain ⟨m1, m2, m3, m4, m5, m6, hfl⟩ := g.num
  have hr := g.hr
  have hl5 := g.l5
  have hok := g.ok
  have hal := (sArs [] l).len
  have hfln := (sItems [] f).len
  simp only [List.length_map] at hr hl5 hok m1 m2 m3 m4 m5 m6 hfl hd hal hfln
  obtain ⟨Z, h105, hB⟩ := f105p b f hr (H ++ [bBase b, bSte ⟨f, a0, n0, p0, h0⟩, bCl ⟨d, l, t⟩, bSte0, bAn0])
  have hB0 := hB (H ++ [bBase b, bSte ⟨f, a0, n0, p0, h0⟩, bCl ⟨d, l, t⟩, bSte0, bAn0]) rfl
  have hB1 : ∀ P : Heap, P.length = H.length + 5 → Bk b f (H.length + 6) (P ++ Z) := fun P hP => by have := hB P (by simpa using hP); simpa using this
  have h125 := fun H => k125 H
  have h82 := f82 ⟨f, a0, n0, p0, h0⟩
  have h42 := f42 f hfl
  have hnr : noRef0 (eItems f) = true := rfl
  have hnrA : noRef0 (eArs l) = true := rfl
  rw [cal_of at88]
  have hq := srchB_cases b f l n0 (f.length : Int) (by omega)
  have h65 := f65 b f hr _ _ hB0 l (by omega) hok n0 (f.length : Int) (by omega) (by omega)
  rcases hq with hq | ⟨i, hq, hi1, hi2⟩
  · rw [hq] at h65
    simp only [eBase, eSte, rSte, eCl, rCl, bBase, bSte, bCl, bSte0, bAn0, sGU, sGHU, sGN, sGHN, sGNP, sGHNP, say, relS, sayA, staF, eR2, eAn, rAn, List.length_append, List.length_cons, List.length_nil, Nat.zero_add, Nat.add_assoc, Nat.reduceAdd, List.append_assoc, List.cons_append, List.nil_append] at h105 h65 h125 hd h82 h42
    rcases hd with rfl | rfl
    · have e1 : getS b ⟨f, a0, n0, p0, h0⟩ ⟨⟨#[71, 78]⟩, l, t⟩ = _ := getK_no (uni := false) (wit := false) false (fun h => nomatch h) hq
      by_cases hl0 : l = []
      · rw [if_pos ⟨rfl, rfl, hl0⟩] at e1
        rw [e1]
        have hl0' : (l.length : Int) = 0 := by rw [hl0]; rfl
        rw [hl0'] at hal
        simp only [c88, eBase, eSte, rSte, eCl, rCl, h125, h105, h65, h42, staF, h82, hnr, hnrA, p_slcs, slcsK_some, cut_lit, app_lit, siz_lit, dec_lit, hfln, hal, eR2, say, relS, sayA, eAn, rAn, evX, Int.reduceEq, Int.reduceLT, Int.reduceLE, Nat.reduceMul, Nat.reduceMod, evW, fn_eq, evR, Nat.reduceAdd, Nat.reduceLT, Nat.reduceLeDiff, reduceIte, Nat.reduceEqDiff, reduceCtorEq, argEnv, eq_self, if_true, if_false]
        rfl
      · rw [if_neg (fun h => hl0 h.2.2)] at e1
        rw [e1]
        have hl0' : ((l.length : Int) = 0) = False := eq_false (by have := List.length_pos_iff.2 hl0; omega)
        simp only [c88, eBase, eSte, rSte, eCl, rCl, h125, h105, h65, hl0', h82, hnr, hnrA, p_slcs, slcsK_some, cut_lit, app_lit, siz_lit, dec_lit, hfln, hal, eR2, say, relS, sayA, eAn, rAn, evX, Int.reduceEq, Int.reduceLT, Int.reduceLE, Nat.reduceMul, Nat.reduceMod, evW, fn_eq, evR, Nat.reduceAdd, Nat.reduceLT, Nat.reduceLeDiff, reduceIte, Nat.reduceEqDiff, reduceCtorEq, argEnv, eq_self, if_true, if_false]
        rfl
    · have e1 : getS b ⟨f, a0, n0, p0, h0⟩ ⟨⟨#[71, 72, 78]⟩, l, t⟩ = _ := getK_no (uni := false) (wit := false) true (fun h => nomatch h) hq
      by_cases hl0 : l = []
      · rw [if_pos ⟨rfl, rfl, hl0⟩] at e1
        rw [e1]
        have hl0' : (l.length : Int) = 0 := by rw [hl0]; rfl
        rw [hl0'] at hal
        simp only [c88, eBase, eSte, rSte, eCl, rCl, h125, h105, h65, h42, staF, h82, hnr, hnrA, p_slcs, slcsK_some, cut_lit, app_lit, siz_lit, dec_lit, hfln, hal, eR2, say, relS, sayA, eAn, rAn, evX, Int.reduceEq, Int.reduceLT, Int.reduceLE, Nat.reduceMul, Nat.reduceMod, evW, fn_eq, evR, Nat.reduceAdd, Nat.reduceLT, Nat.reduceLeDiff, reduceIte, Nat.reduceEqDiff, reduceCtorEq, argEnv, eq_self, if_true, if_false]
        rfl
      · rw [if_neg (fun h => hl0 h.2.2)] at e1
        rw [e1]
        have hl0' : ((l.length : Int) = 0) = False := eq_false (by have := List.length_pos_iff.2 hl0; omega)
        simp only [c88, eBase, eSte, rSte, eCl, rCl, h125, h105, h65, hl0', h82, hnr, hnrA, p_slcs, slcsK_some, cut_lit, app_lit, siz_lit, dec_lit, hfln, hal, eR2, say, relS, sayA, eAn, rAn, evX, Int.reduceEq, Int.reduceLT, Int.reduceLE, Nat.reduceMul, Nat.reduceMod, evW, fn_eq, evR, Nat.reduceAdd, Nat.reduceLT, Nat.reduceLeDiff, reduceIte, Nat.reduceEqDiff, reduceCtorEq, argEnv, eq_self, if_true, if_false]
        rfl
  · have hif : i < f.length := by omega
    have h70 := f70 b f hr _ _ hB0 l (by omega) (eArs l) (eIs (tysA b.types l)) (.inl rfl) hal (fun H => sIs H _) i hif
    have hwi := wrapS hif (by omega)
    have h127 := f127 b f hr _ _ ((hB0).app [bAnn (ansB b f l i)]) a0 m2 i hif
    rw [hq] at h65
    have hin : ¬ (i : Int) < 0 := by omega
    have hl88 := fun A p1 hh z st hE hH => l88 b f hr l hl5 i hif H Z hB1 ⟨d, l, t⟩ f (i : Int) ((i : Int) + 1) p1 hh A st hE hH z
    simp only [eBase, eSte, rSte, eCl, rCl, bBase, bSte, bCl, bSte0, bAn0, sGU, sGHU, sGN, sGHN, sGNP, sGHNP, say, relS, sayA, staF, eR2, eAn, rAn, List.length_append, List.length_cons, List.length_nil, Nat.zero_add, Nat.add_assoc, Nat.reduceAdd, List.append_assoc, List.cons_append, List.nil_append, bAnn] at h105 h65 h125 hd h82 h42 h70 h127
    rcases hd with rfl | rfl
    · have e1 : getS b ⟨f, a0, n0, p0, h0⟩ ⟨⟨#[71, 78]⟩, l, t⟩ = _ := getK_at (uni := false) (wit := false) false (fun h => nomatch h) hq
      rw [e1]
      by_cases hl0 : l = []
      · have hl0' : (l.length : Int) = 0 := by rw [hl0]; rfl
        have hal' := hal
        rw [hl0'] at hal
        simp only [c88, eBase, eSte, rSte, eCl, rCl, h125, h105, h65, hin, h70, h127, hwi, at_five, set_five, h82, hnr, hnrA, p_slcs, slcsK_some, cut_lit, app_lit, siz_lit, dec_lit, hfln, hal, eR2, say, relS, sayA, eAn, rAn, evX, Int.reduceEq, Int.reduceLT, Int.reduceLE, Nat.reduceMul, Nat.reduceMod, evW, fn_eq, evR, Nat.reduceAdd, Nat.reduceLT, Nat.reduceLeDiff, reduceIte, Nat.reduceEqDiff, reduceCtorEq, argEnv, eq_self, if_true, if_false]
        generalize hz : itLim _ _ = z
        obtain ⟨T, G, rfl, hT⟩ := hl88 (an1 (movS b f a0 i) (ansB b f l i)) (i : Int) false z _ (by rw [hl0']; rfl) (by simp [gtH, bBase, bSte, bCl, bSte0, bAn0, bAnn, rSte, rCl, rAn, an1] <;> rfl) hz
        clear hz
        simp only [gtH, bBase, bSte, bCl, bSte0, bAn0, bAnn, rSte, rCl, rAn, an1]
        simp only [hT, at_five, hnr, evX, Int.reduceEq, Int.reduceLT, Int.reduceLE, Nat.reduceMul, Nat.reduceMod, evW, fn_eq, evR, Nat.reduceAdd, Nat.reduceLT, Nat.reduceLeDiff, reduceIte, Nat.reduceEqDiff, reduceCtorEq, argEnv, eq_self, if_true, if_false]
        simp only [foundS, an1, eR2, eSte, rSte, eAn, rAn, hl0]
        rfl
      · have hl0' : ((l.length : Int) = 0) = False := eq_false (by have := List.length_pos_iff.2 hl0; omega)
        simp only [c88, eBase, eSte, rSte, eCl, rCl, h125, h105, h65, hin, h70, h127, hwi, at_five, set_five, hl0', h82, hnr, hnrA, p_slcs, slcsK_some, cut_lit, app_lit, siz_lit, dec_lit, hfln, hal, eR2, say, relS, sayA, eAn, rAn, evX, Int.reduceEq, Int.reduceLT, Int.reduceLE, Nat.reduceMul, Nat.reduceMod, evW, fn_eq, evR, Nat.reduceAdd, Nat.reduceLT, Nat.reduceLeDiff, reduceIte, Nat.reduceEqDiff, reduceCtorEq, argEnv, eq_self, if_true, if_false]
        generalize hz : itLim _ _ = z
        obtain ⟨T, G, rfl, hT⟩ := hl88 (an1 sWell (ansB b f l i)) (i : Int) false z _ (by rfl) (by simp [gtH, bBase, bSte, bCl, bSte0, bAn0, bAnn, rSte, rCl, rAn, an1] <;> rfl) hz
        clear hz
        simp only [gtH, bBase, bSte, bCl, bSte0, bAn0, bAnn, rSte, rCl, rAn, an1]
        simp only [hT, at_five, hnr, evX, Int.reduceEq, Int.reduceLT, Int.reduceLE, Nat.reduceMul, Nat.reduceMod, evW, fn_eq, evR, Nat.reduceAdd, Nat.reduceLT, Nat.reduceLeDiff, reduceIte, Nat.reduceEqDiff, reduceCtorEq, argEnv, eq_self, if_true, if_false]
        simp only [foundS, an1, eR2, eSte, rSte, eAn, rAn, hl0]
        rfl
    · have e1 : getS b ⟨f, a0, n0, p0, h0⟩ ⟨⟨#[71, 72, 78]⟩, l, t⟩ = _ := getK_at (uni := false) (wit := false) true (fun h => nomatch h) hq
      rw [e1]
      by_cases hl0 : l = []
      · have hl0' : (l.length : Int) = 0 := by rw [hl0]; rfl
        have hal' := hal
        rw [hl0'] at hal
        simp only [c88, eBase, eSte, rSte, eCl, rCl, h125, h105, h65, hin, h70, h127, hwi, at_five, set_five, h82, hnr, hnrA, p_slcs, slcsK_some, cut_lit, app_lit, siz_lit, dec_lit, hfln, hal, eR2, say, relS, sayA, eAn, rAn, evX, Int.reduceEq, Int.reduceLT, Int.reduceLE, Nat.reduceMul, Nat.reduceMod, evW, fn_eq, evR, Nat.reduceAdd, Nat.reduceLT, Nat.reduceLeDiff, reduceIte, Nat.reduceEqDiff, reduceCtorEq, argEnv, eq_self, if_true, if_false]
        generalize hz : itLim _ _ = z
        obtain ⟨T, G, rfl, hT⟩ := hl88 (an1 (movS b f a0 i) (ansB b f l i)) (i : Int) true z _ (by rw [hl0']; rfl) (by simp [gtH, bBase, bSte, bCl, bSte0, bAn0, bAnn, rSte, rCl, rAn, an1] <;> rfl) hz
        clear hz
        simp only [gtH, bBase, bSte, bCl, bSte0, bAn0, bAnn, rSte, rCl, rAn, an1]
        simp only [hT, at_five, hnr, evX, Int.reduceEq, Int.reduceLT, Int.reduceLE, Nat.reduceMul, Nat.reduceMod, evW, fn_eq, evR, Nat.reduceAdd, Nat.reduceLT, Nat.reduceLeDiff, reduceIte, Nat.reduceEqDiff, reduceCtorEq, argEnv, eq_self, if_true, if_false]
        simp only [foundS, an1, eR2, eSte, rSte, eAn, rAn, hl0]
        rfl
      · have hl0' : ((l.length : Int) = 0) = False := eq_false (by have := List.length_pos_iff.2 hl0; omega)
        simp only [c88, eBase, eSte, rSte, eCl, rCl, h125, h105, h65, hin, h70, h127, hwi, at_five, set_five, hl0', h82, hnr, hnrA, p_slcs, slcsK_some, cut_lit, app_lit, siz_lit, dec_lit, hfln, hal, eR2, say, relS, sayA, eAn, rAn, evX, Int.reduceEq, Int.reduceLT, Int.reduceLE, Nat.reduceMul, Nat.reduceMod, evW, fn_eq, evR, Nat.reduceAdd, Nat.reduceLT, Nat.reduceLeDiff, reduceIte, Nat.reduceEqDiff, reduceCtorEq, argEnv, eq_self, if_true, if_false]
        generalize hz : itLim _ _ = z
        obtain ⟨T, G, rfl, hT⟩ := hl88 (an1 sWell (ansB b f l i)) (i : Int) true z _ (by rfl) (by simp [gtH, bBase, bSte, bCl, bSte0, bAn0, bAnn, rSte, rCl, rAn, an1] <;> rfl) hz
        clear hz
        simp only [gtH, bBase, bSte, bCl, bSte0, bAn0, bAnn, rSte, rCl, rAn, an1]
        simp only [hT, at_five, hnr, evX, Int.reduceEq, Int.reduceLT, Int.reduceLE, Nat.reduceMul, Nat.reduceMod, evW, fn_eq, evR, Nat.reduceAdd, Nat.reduceLT, Nat.reduceLeDiff, reduceIte, Nat.reduceEqDiff, reduceCtorEq, argEnv, eq_self, if_true, if_false]
        simp only [foundS, an1, eR2, eSte, rSte, eAn, rAn, hl0]
        rfl
end Go.Proofs.YtbdpceigmnpoaaaGreatDoor.Code

/- The law CallFinds is true. -/
set_option linter.unusedSimpArgs false
set_option linter.unusedVariables false
namespace Go.Proofs.YtbdpceigmnpoaaaGreatDoor.Code
open Go.Proofs.YtbdpceigmnpoaaaGreatDoor.Ev Go.RowKit

def getUN (d : ByteArray) : Prop := (d = sGU ∨ d = sGHU) ∨ (d = sGN ∨ d = sGHN)
theorem getUN_gets {d : ByteArray} (h : getUN d) : getsB d = true ∧ (d = (⟨#[82, 69, 80, 76]⟩ : ByteArray)) = False ∧ (d = (⟨#[68, 76, 69, 84]⟩ : ByteArray)) = False ∧ (d = (⟨#[73, 83, 82, 84]⟩ : ByteArray)) = False := by
  rcases h with (h | h) | (h | h) <;> rw [h] <;> refine ⟨by decide, eq_false (by decide), eq_false (by decide), eq_false (by decide)⟩
set_option maxHeartbeats 8000000 in
theorem f46g (b : Base) (s : Ste) (c : Cl) (G : Gt b s c.args) (hoa : ∀ a ∈ c.args, a.Ok) (hs : chkS b.types c.args = sWell) (hd : getUN c.do') (H : Heap) : cal (evC cprog) false 46 [eBase b, eSte s, eCl c] H = some (eR2 (getS b s c), H) := by
  have hr := G.hr
  have hfl := hr.len
  have h45 := f45z s.items (by omega)
  have h56 := f56 c.do'
  have h85 := f85 b hr.base hr.valid c.args hoa
  have h86 := f86 b hr.base hr.valid c.args hoa
  obtain ⟨hg, hd1, hd2, hi'⟩ := getUN_gets hd
  have h88 : ∀ H, cal (evC cprog) false 88 [eBase b, eSte s, eCl c, eIs (tysA b.types c.args)] H = some (eR2 (getS b s c), H) := fun H => by
    rcases hd with h | h
    · exact f88u b s c G h H
    · exact f88n b s c G h H
  rw [hs] at h85
  rw [if_pos hs] at h86
  rw [hg] at h56
  rw [cal_of at46]
  obtain ⟨f, a0, n0, p0, h0⟩ := s
  obtain ⟨d, l, da⟩ := c
  simp only at h45 h56 h85 h86 h88 hd1 hd2 hi'
  have hnr : noRef0 (eItems f) = true := rfl
  have hnrA : noRef0 (eArs l) = true := rfl
  generalize getS b ⟨f, a0, n0, p0, h0⟩ ⟨d, l, da⟩ = r at *
  obtain ⟨⟨f2, a2, n2, p2, e2⟩, ⟨x1, x2, x3, x4, x5⟩⟩ := r
  have hnr2 : noRef0 (eItems f2) = true := rfl
  simp only [eBase, eSte, rSte, eCl, rCl, eAn, rAn, eR2, sWell] at h88 h85 h86
  simp only [c46, eBase, eSte, rSte, eCl, rCl, h45, cells_eItems, isTup_eItems, hd1, hd2, h56, h85, h86, hi', h88, hnr, hnrA, hnr2, eR2, eAn, rAn, evX, Int.reduceEq, Int.reduceLT, Int.reduceLE, Nat.reduceMul, Nat.reduceMod, evW, fn_eq, evR, Nat.reduceAdd, Nat.reduceLT, Nat.reduceLeDiff, reduceIte, Nat.reduceEqDiff, reduceCtorEq, argEnv, eq_self, if_true, if_false]
  all_goals rfl
set_option maxHeartbeats 8000000 in
theorem f20g (b : Base) (s : Ste) (c : Cl) (G : Gt b s c.args) (hoa : ∀ a ∈ c.args, a.Ok) (hs : chkS b.types c.args = sWell) (hd : getUN c.do') (H : Heap) : cal (evC cprog) true 20 [eBase b, eSte s, eCl c] H = some (.tup [eSte (getS b s c).1, eAn (getS b s c).2, .int .i64 0], H) := by
  rw [cal_of at20]
  have hr := G.hr
  have h18 := f18 b hr.base s (by have := hr.len; omega)
  have h46 := f46g b s c G hoa hs hd
  rw [hr.valid, hr.forest, G.no, if_pos rfl] at h18
  simp only [eBase, eSte, rSte, eCl, rCl, bEr, Bool.and_self] at h18
  generalize getS b s c = r at *
  obtain ⟨⟨f2, a2, n2, p2, k2⟩, ⟨x1, x2, x3, x4, x5⟩⟩ := r
  simp only [eBase, eSte, rSte, eCl, rCl, eAn, rAn, eR2] at h46
  have hnr2 : noRef0 (eItems f2) = true := rfl
  simp only [c20, eBase, eSte, rSte, eCl, rCl, h18, h46, hnr2, cells_eItems, isTup_eItems, eAn, rAn, evX, Int.reduceEq, Int.reduceLT, Int.reduceLE, Nat.reduceMul, Nat.reduceMod, evW, fn_eq, evR, Nat.reduceAdd, Nat.reduceLT, Nat.reduceLeDiff, reduceIte, Nat.reduceEqDiff, reduceCtorEq, argEnv, eq_self, if_true, if_false]
  exact calK_frz (ids := []) rfl rfl (by simp) (by simp)
theorem movS_new (b : Base) (f : List Item) (i : Nat) : movS b f (-1) i = sWell := if_pos (by decide)
theorem finds_same (b : Base) (f : List Item) (l : List Ar) (d1 : ByteArray) : (getS b (staF f) ⟨sGN, l, d1⟩).1 = (getS b (staF f) ⟨sGU, l, d1⟩).1 ∧ (getS b (staF f) ⟨sGN, l, d1⟩).2.data = (getS b (staF f) ⟨sGU, l, d1⟩).2.data ∧ (getS b (staF f) ⟨sGN, l, d1⟩).2.key = (getS b (staF f) ⟨sGU, l, d1⟩).2.key ∧ (getS b (staF f) ⟨sGU, l, d1⟩).1.items = f ∧
    (((getS b (staF f) ⟨sGU, l, d1⟩).1.at' = -1 ∧ ∀ k, k < f.length → satB b f l k = false) ∨ ∃ j : Nat, (getS b (staF f) ⟨sGU, l, d1⟩).1.at' = (j : Int) ∧ j < f.length ∧ satB b f l j = true ∧ ∀ k, k < j → satB b f l k = false) := by
  have eU : getS b (staF f) ⟨sGU, l, d1⟩ = getK b (staF f) l false true false := rfl
  have eN : getS b (staF f) ⟨sGN, l, d1⟩ = getK b (staF f) l false false false := rfl
  rw [eU, eN]
  have hq := srch_cases (satB b f l) (((f.length : Int) - 0).toNat) (0 : Int).toNat
  have h0 : srchB b (staF f).items l (frmS (staF f) true false) (toS b (staF f) false) = srch (satB b f l) (((f.length : Int) - 0).toNat) (0 : Int).toNat := rfl
  have h1 : srchB b (staF f).items l (frmS (staF f) false false) (toS b (staF f) false) = srch (satB b f l) (((f.length : Int) - 0).toNat) (0 : Int).toNat := rfl
  rcases hq with ⟨hq, hn⟩ | ⟨j, hq, _, j2, j3, j4⟩
  · have e1 : getK b (staF f) l false true false = say (staF f) sGE := by
      rw [getK_no (uni := true) (wit := false) false (fun h => nomatch h) (h0.trans hq)]
      exact if_neg (fun h => absurd h.1 (by decide))
    rw [e1, getK_no (uni := false) (wit := false) false (fun h => nomatch h) (h1.trans hq)]
    have hn' : ∀ k, k < f.length → satB b f l k = false := fun k hk => hn k (by simp) (by simp; omega)
    by_cases hl : l = []
    · rw [if_pos ⟨rfl, rfl, hl⟩]
      exact ⟨rfl, rfl, rfl, rfl, .inl ⟨rfl, hn'⟩⟩
    · rw [if_neg (fun h => hl h.2.2)]
      exact ⟨rfl, rfl, rfl, rfl, .inl ⟨rfl, hn'⟩⟩
  · rw [getK_at (uni := true) (wit := false) false (fun h => nomatch h) (h0.trans hq), getK_at (uni := false) (wit := false) false (fun h => nomatch h) (h1.trans hq)]
    exact ⟨rfl, rfl, rfl, rfl, .inr ⟨j, rfl, by simp at j2; omega, j3, fun k hk => j4 k (by simp) hk⟩⟩
theorem sat_in {b : Base} {f : List Item} (hr : Right b f) {l : List Ar} (hs : chkS b.types l = sWell) {k : Nat} (hk : k < f.length) : satE b f l (k : Int) = 0 ∧ satV b f l (k : Int) = satB b f l k := by
  have ha : askE b f l = 0 := by
    unfold askE forE
    rw [hr.valid, hr.forest, if_pos rfl, if_pos rfl, if_pos rfl, if_pos hs]
  have he : satE b f l (k : Int) = 0 := by
    unfold satE
    rw [if_pos ha, if_pos (by simp [inF]; omega)]
  exact ⟨he, by unfold satV; rw [if_pos he, Int.toNat_natCast]⟩
theorem l7 (b : Base) (f : List Item) (hr : Right b f) (l : List Ar) (hoa : ∀ a ∈ l, a.Ok) (hs : chkS b.types l = sWell) (A n p : Int) (h : Bool) (hA : (A = -1 ∧ ∀ k, k < f.length → satB b f l k = false) ∨ ∃ j : Nat, A = (j : Int) ∧ j < f.length ∧ satB b f l j = true ∧ ∀ k, k < j → satB b f l k = false)
    (m q : Nat) (K : Heap) (hm : Sits K m (bBase b)) (hq : Sits K q ⟨0, true, 35, 5, [[eItems f, .int .i64 A, .int .i64 n, .int .i64 p, .bool h]]⟩) (st : St) (hE : keepEnv st.1 [1, 2, 3, 11, 16] = [(1, eItems f), (2, eArs l), (3, .ptr m 0 4 0 0), (11, .ptr q 0 5 0 0), (16, .int .i64 0)]) (hH : st.2 = K) (z : Option (CX × St)) (hz : itLim (evCode (evC cprog) itLim c7_l0) st = z) :
    ∃ T, z = some (.exit 0, T, K) := by
  have hm0 := hm.at
  have hq0 := hq.at
  simp only [bBase] at hm0
  have hfl := hr.len
  have hfln := (sItems [] f).len
  simp only [List.length_map] at hfln
  have L := loop_rule (σ := Nat) (m := [1, 2, 3, 11, 16]) (env := fun k => [(1, eItems f), (2, eArs l), (3, .ptr m 0 4 0 0), (11, .ptr q 0 5 0 0), (16, .int .i64 (k : Int))]) (hp := fun _ => K)
    (P := fun _ r => ∃ T, r = (.exit 0, T, K)) (mu := fun k => f.length - k) (I := fun _ => True) (evCode (evC cprog) itLim c7_l0) ?_ 0 st trivial hE hH z hz
  · obtain ⟨_, rfl, T, rfl⟩ := L
    exact ⟨T, rfl⟩
  · intro k _ E hE
    by_cases hlt : k < f.length
    · have hkl : (k : Int) < (f.length : Int) := by omega
      have hw := wrapS hlt (by omega)
      have h33 := f33 b hr.base f l hoa (k : Int)
      obtain ⟨e1, e2⟩ := sat_in hr hs hlt
      rw [e1, e2] at h33
      simp only [eBase] at h33
      cases hv : satB b f l k with
      | true =>
        rw [hv] at h33
        have a1 : ¬ A < 0 ∧ ¬ (k : Int) < A := by
          rcases hA with ⟨_, h⟩ | ⟨j, rfl, _, _, h⟩
          · rw [h k hlt] at hv; cases hv
          · refine ⟨by omega, fun hk => ?_⟩
            rw [h k (by omega)] at hv; cases hv
        obtain ⟨a1, a2⟩ := a1
        simp only [c7_l0, hE, hkl, hfln, hm0, hq0, h33, a1, a2, hw, evX, Int.reduceEq, Int.reduceLT, Int.reduceLE, Nat.reduceMul, Nat.reduceMod, evW, fn_eq, evR, Nat.reduceAdd, Nat.reduceLT, Nat.reduceLeDiff, reduceIte, Nat.reduceEqDiff, reduceCtorEq, argEnv, eq_self, if_true, if_false]
        exact q_next (k + 1) (by rfl) rfl trivial (by omega) fun r h => h
      | false =>
        rw [hv] at h33
        have a1 : ((k : Int) = A) = False := eq_false fun e => by
          rcases hA with ⟨h, _⟩ | ⟨j, h, _, h2, _⟩
          · omega
          · have : k = j := by omega
            rw [this, h2] at hv; cases hv
        simp only [c7_l0, hE, hkl, hfln, hm0, hq0, h33, a1, hw, evX, Int.reduceEq, Int.reduceLT, Int.reduceLE, Nat.reduceMul, Nat.reduceMod, evW, fn_eq, evR, Nat.reduceAdd, Nat.reduceLT, Nat.reduceLeDiff, reduceIte, Nat.reduceEqDiff, reduceCtorEq, argEnv, eq_self, if_true, if_false]
        exact q_next (k + 1) (by rfl) rfl trivial (by omega) fun r h => h
    · have hkl : ¬ (k : Int) < (f.length : Int) := by omega
      simp only [c7_l0, hE, hkl, hfln, evX, Int.reduceEq, Int.reduceLT, Int.reduceLE, Nat.reduceMul, Nat.reduceMod, evW, fn_eq, evR, Nat.reduceAdd, Nat.reduceLT, Nat.reduceLeDiff, reduceIte, Nat.reduceEqDiff, reduceCtorEq, argEnv, eq_self, if_true, if_false]
      exact q_exit ⟨_, rfl⟩
theorem open_Ars {a : AV} (h : ArgTy false [.sl [.str, .str, .sl [.sl [.str, .int .i64, .str]]]] a) : ∃ l : List Ar, a = eArs l ∧ l.length < 9223372036854775807 ∧ ∀ a ∈ l, a.Ok := by
  have h : HasL [.sl [.str, .str, .sl [.sl [.str, .int .i64, .str]]]] [a] := h
  simp only [HasL.eq_2, HasL.eq_1, Has] at h
  obtain ⟨x, xs, he, ⟨l, rfl, hl, hr⟩, rfl⟩ := h
  cases he
  obtain ⟨us, rfl, hq⟩ := typed (P := HasL [.str, .str, .sl [.sl [.str, .int .i64, .str]]]) (fun r h => open_Ar h) l (fun r h => by simpa only [HasL.eq_2, HasL.eq_1, Has] using hr r h)
  exact ⟨us, rfl, reach_lt (by simpa using hl), hq⟩
set_option maxHeartbeats 16000000 in
theorem f7 (b : Base) (hb : b.Ok) (f : List Item) (hf : f.length < 9223372036854775807) (l : List Ar) (hl : l.length < 9223372036854775807) (hok : ∀ a ∈ l, a.Ok) : ∃ H', evC cprog 7 [eBase b, eItems f, eArs l] [] = some (.bool true, H') := by
  have h11 := f11 b hb f hf
  have h31 := f31 l hl
  have h10 := f10
  have h19 := fun H => f19 b hb f hf .nils [] (by simp) H (nil_slat H)
  have hcu : (eArs l).cells = [eArs l] := rfl
  have htu : (eArs l).isTup = false := rfl
  simp only [eBase] at h11 h19
  rw [evC_fn at7]
  cases hss : small b f with
  | false =>
    simp only [c7, eBase, h10, h11, hss, evX, Int.reduceEq, Int.reduceLT, Int.reduceLE, Nat.reduceMul, Nat.reduceMod, evW, fn_eq, evR, Nat.reduceAdd, Nat.reduceLT, Nat.reduceLeDiff, reduceIte, Nat.reduceEqDiff, reduceCtorEq, argEnv, eq_self, if_true, if_false]
    all_goals exact ⟨_, rfl⟩
  | true =>
    cases hsa : smallA l with
    | false =>
      simp only [c7, eBase, h10, h11, h31, hss, hsa, evX, Int.reduceEq, Int.reduceLT, Int.reduceLE, Nat.reduceMul, Nat.reduceMod, evW, fn_eq, evR, Nat.reduceAdd, Nat.reduceLT, Nat.reduceLeDiff, reduceIte, Nat.reduceEqDiff, reduceCtorEq, argEnv, eq_self, if_true, if_false]
      all_goals exact ⟨_, rfl⟩
    | true =>
      by_cases he : errF b f [] = 0
      case neg =>
        have he' : (errF b f [] = 0) = False := eq_false he
        simp only [c7, eBase, h10, h11, h31, h19, hss, hsa, he', evX, Int.reduceEq, Int.reduceLT, Int.reduceLE, Nat.reduceMul, Nat.reduceMod, evW, fn_eq, evR, Nat.reduceAdd, Nat.reduceLT, Nat.reduceLeDiff, reduceIte, Nat.reduceEqDiff, reduceCtorEq, argEnv, eq_self, if_true, if_false]
        all_goals exact ⟨_, rfl⟩
      obtain ⟨hr, _⟩ := errF_zero hb he
      have hfl := hr.len
      rw [he] at h19
      have h32 := f32 b hb hr.valid l hok
      simp only [eBase] at h32
      by_cases hs : chkS b.types l = sWell
      case neg =>
        have hs' : (chkS b.types l = (⟨#[32, 32]⟩ : ByteArray)) = False := eq_false hs
        generalize chkS b.types l = q at *
        simp only [c7, eBase, h10, h11, h31, h19, h32, hss, hsa, hs', evX, Int.reduceEq, Int.reduceLT, Int.reduceLE, Nat.reduceMul, Nat.reduceMod, evW, fn_eq, evR, Nat.reduceAdd, Nat.reduceLT, Nat.reduceLeDiff, reduceIte, Nat.reduceEqDiff, reduceCtorEq, argEnv, eq_self, if_true, if_false]
        all_goals exact ⟨_, rfl⟩
      rw [hs] at h32
      have h12 := f12 b hb f (by omega)
      have hfe : forE b f = 0 := by unfold forE; rw [hr.valid, hr.forest, if_pos rfl, if_pos rfl]
      have hfs : fstS b f = staF f := if_pos hfe
      rw [hfe, hfs] at h12
      obtain ⟨hRi, hl5⟩ := chkS_rise hs
      have G : Gt b (staF f) l := ⟨hr, numOk_staF f, by omega, rise_ok hRi hok⟩
      have h20u := f20g b (staF f) ⟨sGU, l, ⟨#[]⟩⟩ G hok hs (.inl (.inl rfl))
      have h20n := f20g b (staF f) ⟨sGN, l, ⟨#[]⟩⟩ G hok hs (.inr (.inl rfl))
      obtain ⟨g1, g2, g3, g4, g5⟩ := finds_same b f l ⟨#[]⟩
      rw [g1] at h20n
      generalize getS b (staF f) ⟨sGN, l, ⟨#[]⟩⟩ = y at *
      generalize getS b (staF f) ⟨sGU, l, ⟨#[]⟩⟩ = x at *
      obtain ⟨⟨f2, a2, n2, p2, k2⟩, ⟨x1, x2, x3, x4, x5⟩⟩ := x
      obtain ⟨_, ⟨y1, y2, y3, y4, y5⟩⟩ := y
      simp only at g2 g3 g4 g5
      subst g4 g2 g3
      have h16 := f16 ⟨f2, a2, n2, p2, k2⟩ ⟨f2, a2, n2, p2, k2⟩ hf
      rw [sameS_self] at h16
      have hnr2 : noRef0 (eItems f2) = true := rfl
      simp only [eBase, eSte, rSte, eCl, rCl, eAn, rAn, staF, sGU, sGN, sWell] at h12 h20u h20n h16 h32
      simp only [c7, eBase, h10, h11, h31, h19, h32, hss, hsa, h12, h20u, h20n, h16, hcu, htu, hnr2, cells_eItems, isTup_eItems, beq_self_eq_true, evX, Int.reduceEq, Int.reduceLT, Int.reduceLE, Nat.reduceMul, Nat.reduceMod, evW, fn_eq, evR, Nat.reduceAdd, Nat.reduceLT, Nat.reduceLeDiff, reduceIte, Nat.reduceEqDiff, reduceCtorEq, argEnv, eq_self, if_true, if_false]
      generalize hz : itLim _ _ = z
      obtain ⟨T, rfl⟩ := l7 b f2 hr l hok hs a2 n2 p2 k2 g5 0 2 _ (.mk (by simp [bBase] <;> rfl)) (.mk (by simp <;> rfl)) _ (by rfl) rfl z hz
      clear hz
      simp only [h10, evX, Int.reduceEq, Int.reduceLT, Int.reduceLE, Nat.reduceMul, Nat.reduceMod, evW, fn_eq, evR, Nat.reduceAdd, Nat.reduceLT, Nat.reduceLeDiff, reduceIte, Nat.reduceEqDiff, reduceCtorEq, argEnv, eq_self, if_true, if_false]
      all_goals exact ⟨_, rfl⟩
end Go.Proofs.YtbdpceigmnpoaaaGreatDoor.Code
namespace Go.Proofs.YtbdpceigmnpoaaaGreatDoor.Pure
open Go.Proofs.YtbdpceigmnpoaaaGreatDoor.Ev Go.Proofs.YtbdpceigmnpoaaaGreatDoor.Code
theorem CallFinds (a0 : AV) (t0 : ArgTy true [.str, .int .i64, .sl [.str, .int .i64, .int .i64, .int .i64, .sl [.str, .int .i64, .int .i64], .int .i64, .bool, .bool], .sl [.str, .int .i64, .int .i64, .str]] a0)
    (a1 : AV) (t1 : ArgTy false [.sl [.int .i64, .str]] a1) (a2 : AV) (t2 : ArgTy false [.sl [.str, .str, .sl [.sl [.str, .int .i64, .str]]]] a2) : ∃ H', evC cprog 7 [a0, a1, a2] [] = some (.bool true, H') := by
  obtain ⟨b, rfl, hb⟩ := open_Base t0
  obtain ⟨f, rfl, hf⟩ := open_Items t1
  obtain ⟨l, rfl, hl, hok⟩ := open_Ars t2
  exact f7 b hb f hf l hl hok
end Go.Proofs.YtbdpceigmnpoaaaGreatDoor.Pure

