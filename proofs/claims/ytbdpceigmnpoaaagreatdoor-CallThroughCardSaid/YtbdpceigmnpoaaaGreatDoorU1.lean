/- Texts of ours, joined into one file; each begins with its own remark. -/
import Derived.Test.YtbdpceigmnpoaaaGreatDoorCodeB
import Derived.Test.YtbdpceigmnpoaaaGreatDoorEvX
import Derived.Test.YtbdpceigmnpoaaaGreatDoorEvY
import Derived.Test.YtbdpceigmnpoaaaGreatDoorGathG
import Derived.Test.YtbdpceigmnpoaaaGreatDoorEvR
import Derived.Test.YtbdpceigmnpoaaaGreatDoorEvZ
/- plain: what a base is; names and fields. -/
set_option linter.unusedSimpArgs false
set_option linter.unusedVariables false
namespace Go.Proofs.YtbdpceigmnpoaaaGreatDoor.Code
open Go.Proofs.YtbdpceigmnpoaaaGreatDoor.Ev

structure Fd where
  name : ByteArray
  at' : Int
  bytes : Int
structure Ty where
  name : ByteArray
  parent : Int
  min : Int
  size : Int
  fields : List Fd
  key : Int
  unique : Bool
  last : Bool
structure Se where
  name : ByteArray
  type : Int
  field : Int
  sparse : ByteArray
structure Base where
  name : ByteArray
  kind : Int
  types : List Ty
  indexes : List Se
structure Item where
  type : Int
  data : ByteArray
def rFd (f : Fd) : List AV := [.str f.name, .int .i64 f.at', .int .i64 f.bytes]
def eFds (l : List Fd) : AV := .lst (l.map rFd)
def rTy (t : Ty) : List AV := [.str t.name, .int .i64 t.parent, .int .i64 t.min, .int .i64 t.size, eFds t.fields, .int .i64 t.key, .bool t.unique, .bool t.last]
def eTys (l : List Ty) : AV := .lst (l.map rTy)
def rSe (x : Se) : List AV := [.str x.name, .int .i64 x.type, .int .i64 x.field, .str x.sparse]
def eSes (l : List Se) : AV := .lst (l.map rSe)
def eBase (b : Base) : AV := .agg [.str b.name, .int .i64 b.kind, eTys b.types, eSes b.indexes]
def rItem (x : Item) : List AV := [.int .i64 x.type, .str x.data]
def eItems (l : List Item) : AV := .lst (l.map rItem)
structure Fd.Ok (f : Fd) : Prop where
  name : f.name.size < 9223372036854775807
structure Ty.Ok (t : Ty) : Prop where
  name : t.name.size < 9223372036854775807
  fields : t.fields.length < 9223372036854775807
  field : ∀ f ∈ t.fields, f.Ok
structure Se.Ok (x : Se) : Prop where
  name : x.name.size < 9223372036854775807
  sparse : x.sparse.size < 9223372036854775807
structure Base.Ok (b : Base) : Prop where
  name : b.name.size < 9223372036854775807
  types : b.types.length < 9223372036854775807
  type : ∀ t ∈ b.types, t.Ok
  indexes : b.indexes.length < 9223372036854775807
  index : ∀ x ∈ b.indexes, x.Ok

def letter (c : UInt8) : Bool := decide ((65 : Int) ≤ c.toNat) && decide ((c.toNat : Int) ≤ 90)
def digit (c : UInt8) : Bool := decide ((48 : Int) ≤ c.toNat) && decide ((c.toNat : Int) ≤ 57)
def nameOk (i : Nat) (c : UInt8) : Bool := letter c || (decide (i ≠ 0) && digit c)
noncomputable def isName (s : ByteArray) : Bool := tell (∀ (i : Nat) (c : UInt8), s.data.toList[i]? = some c → nameOk i c = true) && decide ((1 : Int) ≤ s.size) && decide ((s.size : Int) ≤ 8)
theorem idx_at (s : ByteArray) {i : Nat} {c : UInt8} (h : s.data.toList[i]? = some c) : idxK (some (.str s)) (some (.int .i64 (i : Int))) = some (.int .u8 (c.toNat : Int)) := by
  have hn : asNat (.int .i64 (i : Int)) = some i := by simp [asNat]
  simp only [idxK, hn, byteK, h]
theorem size_eq (s : ByteArray) : s.data.toList.length = s.size := Array.length_toList
theorem f113 (s : ByteArray) (hs : s.size < 9223372036854775807) (H : Heap) : cal (evC cprog) false 113 [.str s] H = some (.bool (isName s), H) := by
  rw [cal_of at113]
  simp only [c113, evX, Int.reduceEq, Int.reduceLT, Int.reduceLE, Nat.reduceMul, Nat.reduceMod, evW, fn_eq, evR, Nat.reduceAdd, Nat.reduceLT, Nat.reduceLeDiff, reduceIte, Nat.reduceEqDiff, reduceCtorEq, argEnv, eq_self, if_true, if_false]
  generalize hz : itLim _ _ = z
  have L := scan_rule s.data.toList nameOk [0, 6, 7] (fun i => [(0, .str s), (6, .int .i64 (s.size : Int)), (7, .int .i64 (i : Int))]) H [] (evCode (evC cprog) itLim c113_l0) (fun c T => c = .exit 0 ∧ keepEnv T [0] = [(0, .str s)]) (fun _ _ c T => c = .ret ∧ get T 2 = some (.bool false))
    (fun i c hx E G hE => by
      have hlt : i < s.size := by rw [← size_eq]; exact (List.getElem?_eq_some_iff.1 hx).1
      have hi : (i : Int) < (s.size : Int) := by omega
      have hc := idx_at s hx
      simp only [c113_l0, hE, hi, hc, wrapS hlt hs, evX, Int.reduceEq, Int.reduceLT, Int.reduceLE, Nat.reduceMul, Nat.reduceMod, evW, fn_eq, evR, Nat.reduceAdd, Nat.reduceLT, Nat.reduceLeDiff, reduceIte, Nat.reduceEqDiff, reduceCtorEq, argEnv, eq_self, if_true, if_false]
      repeat' ((first | rw [guardK_cases] | rw [condK_bool] | rw [guardD_cases]); split <;> simp only [c113_l0, hE, hi, hc, wrapS hlt hs, evX, Int.reduceEq, Int.reduceLT, Int.reduceLE, Nat.reduceMul, Nat.reduceMod, evW, evR, Nat.reduceAdd, Nat.reduceLT, Nat.reduceLeDiff, reduceIte, Nat.reduceEqDiff, reduceCtorEq, argEnv, eq_self, if_true, if_false, *])
      all_goals first | exact Sc.next (by first | (simp_all [nameOk, letter, digit]; done) | (simp_all [nameOk, letter, digit]; intros; omega)) (by rfl) | exact Sc.ret (by first | (simp_all [nameOk, letter, digit]; done) | (simp_all [nameOk, letter, digit]; intros; omega)) ⟨rfl, by first | rfl | exact ⟨rfl, rfl, rfl⟩⟩ | exact Sc.exit (by first | (simp_all [nameOk, letter, digit]; done) | (simp_all [nameOk, letter, digit]; intros; omega)) ⟨rfl, rfl⟩)
    (fun E G hE => by
      rw [size_eq] at hE
      simp only [c113_l0, hE, Int.lt_irrefl, evX, Int.reduceEq, Int.reduceLT, Int.reduceLE, Nat.reduceMul, Nat.reduceMod, evW, fn_eq, evR, Nat.reduceAdd, Nat.reduceLT, Nat.reduceLeDiff, reduceIte, Nat.reduceEqDiff, reduceCtorEq, argEnv, eq_self, if_true, if_false]
      exact .exit (K := []) ⟨rfl, by rfl⟩) _ [] (by rfl) (by simp) z hz
  rcases L with ⟨ha, c, T, G, rfl, _, rfl, hT⟩ | ⟨i, r, hx, ha, _, c, T, G, rfl, _, rfl, hT⟩
  · simp only [hT, evX, Int.reduceEq, Int.reduceLT, Int.reduceLE, Nat.reduceMul, Nat.reduceMod, evW, fn_eq, evR, Nat.reduceAdd, Nat.reduceLT, Nat.reduceLeDiff, reduceIte, Nat.reduceEqDiff, reduceCtorEq, argEnv, eq_self, if_true, if_false]
    repeat' ((first | rw [guardK_cases] | rw [condK_bool] | rw [guardD_cases]); split <;> simp only [hT, evX, Int.reduceEq, Int.reduceLT, Int.reduceLE, Nat.reduceMul, Nat.reduceMod, evW, evR, Nat.reduceAdd, Nat.reduceLT, Nat.reduceLeDiff, reduceIte, Nat.reduceEqDiff, reduceCtorEq, argEnv, eq_self, if_true, if_false, *])
    all_goals (simp_all [isName, tell_pos]; try (intros; omega))
  · simp only [hT, evX, Int.reduceEq, Int.reduceLT, Int.reduceLE, Nat.reduceMul, Nat.reduceMod, evW, fn_eq, evR, Nat.reduceAdd, Nat.reduceLT, Nat.reduceLeDiff, reduceIte, Nat.reduceEqDiff, reduceCtorEq, argEnv, eq_self, if_true, if_false]
    have : isName s = false := by
      unfold isName
      rw [tell_neg fun h => by rw [h i r hx] at ha; cases ha]; rfl
    rw [this]
theorem f77 (s : ByteArray) (hs : s.size < 9223372036854775807) (H : Heap) : cal (evC cprog) false 77 [.str s] H = some (.bool (isName s), H) := by
  rw [cal_of at77]
  simp only [c77, evX, Int.reduceEq, Int.reduceLT, Int.reduceLE, Nat.reduceMul, Nat.reduceMod, evW, fn_eq, evR, Nat.reduceAdd, Nat.reduceLT, Nat.reduceLeDiff, reduceIte, Nat.reduceEqDiff, reduceCtorEq, argEnv, eq_self, if_true, if_false]
  generalize hz : itLim _ _ = z
  have L := scan_rule s.data.toList nameOk [0, 3] (fun i => [(0, .str s), (3, .int .i64 (i : Int))]) H [] (evCode (evC cprog) itLim c77_l0) (fun c T => c = .exit 0 ∧ keepEnv T [0] = [(0, .str s)]) (fun _ _ c T => c = .ret ∧ get T 2 = some (.bool false))
    (fun i c hx E G hE => by
      have hlt : i < s.size := by rw [← size_eq]; exact (List.getElem?_eq_some_iff.1 hx).1
      have hi : (i : Int) < (s.size : Int) := by omega
      have hc := idx_at s hx
      simp only [c77_l0, hE, hi, hc, wrapS hlt hs, evX, Int.reduceEq, Int.reduceLT, Int.reduceLE, Nat.reduceMul, Nat.reduceMod, evW, fn_eq, evR, Nat.reduceAdd, Nat.reduceLT, Nat.reduceLeDiff, reduceIte, Nat.reduceEqDiff, reduceCtorEq, argEnv, eq_self, if_true, if_false]
      repeat' ((first | rw [guardK_cases] | rw [condK_bool] | rw [guardD_cases]); split <;> simp only [c77_l0, hE, hi, hc, wrapS hlt hs, evX, Int.reduceEq, Int.reduceLT, Int.reduceLE, Nat.reduceMul, Nat.reduceMod, evW, evR, Nat.reduceAdd, Nat.reduceLT, Nat.reduceLeDiff, reduceIte, Nat.reduceEqDiff, reduceCtorEq, argEnv, eq_self, if_true, if_false, *])
      all_goals first | exact Sc.next (by first | (simp_all [nameOk, letter, digit]; done) | (simp_all [nameOk, letter, digit]; intros; omega)) (by rfl) | exact Sc.ret (by first | (simp_all [nameOk, letter, digit]; done) | (simp_all [nameOk, letter, digit]; intros; omega)) ⟨rfl, by first | rfl | exact ⟨rfl, rfl, rfl⟩⟩ | exact Sc.exit (by first | (simp_all [nameOk, letter, digit]; done) | (simp_all [nameOk, letter, digit]; intros; omega)) ⟨rfl, rfl⟩)
    (fun E G hE => by
      rw [size_eq] at hE
      simp only [c77_l0, hE, Int.lt_irrefl, evX, Int.reduceEq, Int.reduceLT, Int.reduceLE, Nat.reduceMul, Nat.reduceMod, evW, fn_eq, evR, Nat.reduceAdd, Nat.reduceLT, Nat.reduceLeDiff, reduceIte, Nat.reduceEqDiff, reduceCtorEq, argEnv, eq_self, if_true, if_false]
      exact .exit (K := []) ⟨rfl, by rfl⟩) _ [] (by rfl) (by simp) z hz
  rcases L with ⟨ha, c, T, G, rfl, _, rfl, hT⟩ | ⟨i, r, hx, ha, _, c, T, G, rfl, _, rfl, hT⟩
  · simp only [hT, evX, Int.reduceEq, Int.reduceLT, Int.reduceLE, Nat.reduceMul, Nat.reduceMod, evW, fn_eq, evR, Nat.reduceAdd, Nat.reduceLT, Nat.reduceLeDiff, reduceIte, Nat.reduceEqDiff, reduceCtorEq, argEnv, eq_self, if_true, if_false]
    repeat' ((first | rw [guardK_cases] | rw [condK_bool] | rw [guardD_cases]); split <;> simp only [hT, evX, Int.reduceEq, Int.reduceLT, Int.reduceLE, Nat.reduceMul, Nat.reduceMod, evW, evR, Nat.reduceAdd, Nat.reduceLT, Nat.reduceLeDiff, reduceIte, Nat.reduceEqDiff, reduceCtorEq, argEnv, eq_self, if_true, if_false, *])
    all_goals (simp_all [isName, tell_pos]; try (intros; omega))
  · simp only [hT, evX, Int.reduceEq, Int.reduceLT, Int.reduceLE, Nat.reduceMul, Nat.reduceMod, evW, fn_eq, evR, Nat.reduceAdd, Nat.reduceLT, Nat.reduceLeDiff, reduceIte, Nat.reduceEqDiff, reduceCtorEq, argEnv, eq_self, if_true, if_false]
    have : isName s = false := by
      unfold isName
      rw [tell_neg fun h => by rw [h i r hx] at ha; cases ha]; rfl
    rw [this]
end Go.Proofs.YtbdpceigmnpoaaaGreatDoor.Code

/- plain: which fields and types are right, as the program asks. -/
set_option linter.unusedSimpArgs false
set_option linter.unusedVariables false
namespace Go.Proofs.YtbdpceigmnpoaaaGreatDoor.Code
open Go.Proofs.YtbdpceigmnpoaaaGreatDoor.Ev

theorem lFd (f : Fd) : Loads true 3 (rFd f) (.agg (rFd f)) := ⟨rfl, rfl⟩
theorem lTy (f : Ty) : Loads true 8 (rTy f) (.agg (rTy f)) := ⟨rfl, rfl⟩
theorem lSe (f : Se) : Loads true 4 (rSe f) (.agg (rSe f)) := ⟨rfl, rfl⟩
theorem sLst {α : Type} (row : α → List AV) {sz : Nat} (hr : ∀ x, (row x).length = sz) (H : Heap) (l : List α) : SlAt H sz (.lst (l.map row)) (l.map row) := .lst fun r h => by
  obtain ⟨n, _, rfl⟩ := List.mem_map.1 h; exact hr n
theorem sFds (H : Heap) (l : List Fd) : SlAt H 3 (eFds l) (l.map rFd) := sLst rFd (fun _ => rfl) H l
theorem sTys (H : Heap) (l : List Ty) : SlAt H 8 (eTys l) (l.map rTy) := sLst rTy (fun _ => rfl) H l
theorem sSes (H : Heap) (l : List Se) : SlAt H 4 (eSes l) (l.map rSe) := sLst rSe (fun _ => rfl) H l
theorem sItems (H : Heap) (l : List Item) : SlAt H 2 (eItems l) (l.map rItem) := sLst rItem (fun _ => rfl) H l
theorem headOk_map {α : Type} (row : α → List AV) {sz : Nat} (hr : ∀ x, (row x).length = sz) (l : List α) : headOk sz (l.map row) = true := by
  cases l with
  | nil => rfl
  | cons x l => simp [headOk, hr]
theorem slc_take {α : Type} (row : α → List AV) {sz : Nat} (hr : ∀ x, (row x).length = sz) (H : Heap) (l : List α) {i : Nat} (hi : i ≤ l.length) : evSlc H sz (.lst (l.map row)) none (some i) none = some (.lst ((l.take i).map row)) := by
  simp [evSlc, headOk_map row hr, hi]
theorem f191 (g f : Fd) (b : Nat) (H : Heap) (hb : H[b]? = some ⟨0, true, 120, 3, [rFd f]⟩) : cal (evC cprog) false 191 [.agg (rFd g), .ptr b 0 3 0 0] H = some (.bool (decide (g.name = f.name)), H) := by
  rw [cal_of at191]
  have hb' : ∀ X, (H ++ X)[b]? = some ⟨0, true, 120, 3, [rFd f]⟩ := fun X => by
    rw [List.getElem?_append_left (List.getElem?_eq_some_iff.1 hb).1]; exact hb
  simp only [rFd] at hb'
  simp only [c191, rFd, hb', evX, Int.reduceEq, Int.reduceLT, Int.reduceLE, Nat.reduceMul, Nat.reduceMod, evW, fn_eq, evR, Nat.reduceAdd, Nat.reduceLT, Nat.reduceLeDiff, reduceIte, Nat.reduceEqDiff, reduceCtorEq, argEnv, eq_self, if_true, if_false]
theorem f190 (l : List Fd) (hl : l.length < 9223372036854775807) (f : Fd) (b : Nat) (H : Heap) (hb : H[b]? = some ⟨0, true, 120, 3, [rFd f]⟩) : cal (evC cprog) false 190 [eFds l, .fn 191 [.ptr b 0 3 0 0]] H = some (.bool (l.any fun g => decide (g.name = f.name)), H) :=
  containsFunc_ok (g := 213) at190 (indexFunc_ok (sz := 3) (ag := true) at213 _ _ lFd 191 [_] _ H _ l (sFds H l) hl fun g _ => f191 g f b H hb)
noncomputable def fldOk (size : Int) (l : List Fd) (i : Nat) (f : Fd) : Bool :=
  isName f.name && decide (0 ≤ f.at') && decide (f.at' < size) && decide (1 ≤ f.bytes) && decide (f.bytes ≤ size - f.at') && !((l.take i).any fun g => decide (g.name = f.name))
noncomputable def fldsOk (size : Int) (l : List Fd) : Bool := tell (∀ (i : Nat) (f : Fd), l[i]? = some f → fldOk size l i f = true)
theorem wrapD {a b : Int} (ha : 0 ≤ a) (ha' : a ≤ 9223372036854775807) (hb : 0 ≤ b) (hb' : b ≤ 9223372036854775807) : IntKind.i64.wrap (a - b) = a - b := wrap_i64 (by omega) (by omega)
theorem f166 (l : List Fd) (hl : l.length < 9223372036854775807) (hf : ∀ f ∈ l, f.Ok) (size : Int) (h0 : 1 ≤ size) (h1 : size ≤ 40) (H : Heap) :
    cal (evC cprog) false 166 [eFds l, .int .i64 size] H = some (.bool (fldsOk size l && decide ((l.length : Int) ≤ 5)), H) := by
  rw [cal_of at166]
  have hlen := (sFds H l).len
  simp only [List.length_map] at hlen
  simp only [c166, hlen, evX, Int.reduceEq, Int.reduceLT, Int.reduceLE, Nat.reduceMul, Nat.reduceMod, evW, fn_eq, evR, Nat.reduceAdd, Nat.reduceLT, Nat.reduceLeDiff, reduceIte, Nat.reduceEqDiff, reduceCtorEq, argEnv, eq_self, if_true, if_false]
  generalize hz : itLim _ _ = z
  have L := scan_rule l (fldOk size l) [0, 1, 7, 8, 9] (fun i => [(0, eFds l), (1, .int .i64 size), (7, eFds l), (8, .int .i64 (l.length : Int)), (9, .int .i64 (i : Int))]) H [] (evCode (evC cprog) itLim c166_l0) (fun c T => c = .exit 0 ∧ keepEnv T [0] = [(0, eFds l)]) (fun _ _ c T => c = .ret ∧ get T 4 = some (.bool false))
    (fun i f hx E G hE => by
      have hlt : i < l.length := (List.getElem?_eq_some_iff.1 hx).1
      have hi : (i : Int) < (l.length : Int) := by omega
      have hok := hf f (List.mem_of_getElem? hx)
      obtain ⟨_, p, hp, hat⟩ := (sFds (H ++ G) l).get i (rFd f) (by rw [List.getElem?_map, hx]; rfl)
      have hc := f190 (l.take i) (by rw [List.length_take]; omega) f (H.length + G.length) (H ++ (G ++ [⟨0, true, 120, 3, [rFd f]⟩])) (by simp)
      have hs := fun H => slc_take rFd (sz := 3) (fun _ => rfl) H l (i := i) (by omega)
      have hn := f113 f.name hok.name
      change ∀ H, evSlc H 3 (eFds l) none (some i) none = some (eFds (l.take i)) at hs
      simp only [rFd] at hat hc
      by_cases hneg : f.at' < 0
      · simp only [c166_l0, hE, hi, hp, hat.agg (n := 3) rfl, hs, hc, hn, hneg, wrapS hlt hl, evX, Int.reduceEq, Int.reduceLT, Int.reduceLE, Nat.reduceMul, Nat.reduceMod, evW, fn_eq, evR, Nat.reduceAdd, Nat.reduceLT, Nat.reduceLeDiff, reduceIte, Nat.reduceEqDiff, reduceCtorEq, argEnv, eq_self, if_true, if_false]
        repeat' ((first | rw [guardK_cases] | rw [condK_bool] | rw [guardD_cases]); split <;> simp only [c166_l0, hE, hi, hp, hat.agg (n := 3) rfl, hs, hc, hn, hneg, wrapS hlt hl, evX, Int.reduceEq, Int.reduceLT, Int.reduceLE, Nat.reduceMul, Nat.reduceMod, evW, evR, Nat.reduceAdd, Nat.reduceLT, Nat.reduceLeDiff, reduceIte, Nat.reduceEqDiff, reduceCtorEq, argEnv, eq_self, if_true, if_false, *])
        all_goals first | exact Sc.next (by first | (simp_all [fldOk]; done) | (simp_all [fldOk]; intros; omega)) (by rfl) | exact Sc.ret (by first | (simp_all [fldOk]; done) | (simp_all [fldOk]; intros; omega)) ⟨rfl, by first | rfl | exact ⟨rfl, rfl, rfl⟩⟩ | exact Sc.exit (by first | (simp_all [fldOk]; done) | (simp_all [fldOk]; intros; omega)) ⟨rfl, rfl⟩
      · by_cases hbig : size ≤ f.at'
        · simp only [c166_l0, hE, hi, hp, hat.agg (n := 3) rfl, hs, hc, hn, hneg, hbig, wrapS hlt hl, evX, Int.reduceEq, Int.reduceLT, Int.reduceLE, Nat.reduceMul, Nat.reduceMod, evW, fn_eq, evR, Nat.reduceAdd, Nat.reduceLT, Nat.reduceLeDiff, reduceIte, Nat.reduceEqDiff, reduceCtorEq, argEnv, eq_self, if_true, if_false]
          repeat' ((first | rw [guardK_cases] | rw [condK_bool] | rw [guardD_cases]); split <;> simp only [c166_l0, hE, hi, hp, hat.agg (n := 3) rfl, hs, hc, hn, hneg, hbig, wrapS hlt hl, evX, Int.reduceEq, Int.reduceLT, Int.reduceLE, Nat.reduceMul, Nat.reduceMod, evW, evR, Nat.reduceAdd, Nat.reduceLT, Nat.reduceLeDiff, reduceIte, Nat.reduceEqDiff, reduceCtorEq, argEnv, eq_self, if_true, if_false, *])
          all_goals first | exact Sc.next (by first | (simp_all [fldOk]; done) | (simp_all [fldOk]; intros; omega)) (by rfl) | exact Sc.ret (by first | (simp_all [fldOk]; done) | (simp_all [fldOk]; intros; omega)) ⟨rfl, by first | rfl | exact ⟨rfl, rfl, rfl⟩⟩ | exact Sc.exit (by first | (simp_all [fldOk]; done) | (simp_all [fldOk]; intros; omega)) ⟨rfl, rfl⟩
        · have hw := wrapD (a := size) (b := f.at') (by omega) (by omega) (by omega) (by omega)
          simp only [c166_l0, hE, hi, hp, hat.agg (n := 3) rfl, hs, hc, hn, hneg, hbig, hw, wrapS hlt hl, evX, Int.reduceEq, Int.reduceLT, Int.reduceLE, Nat.reduceMul, Nat.reduceMod, evW, fn_eq, evR, Nat.reduceAdd, Nat.reduceLT, Nat.reduceLeDiff, reduceIte, Nat.reduceEqDiff, reduceCtorEq, argEnv, eq_self, if_true, if_false]
          repeat' ((first | rw [guardK_cases] | rw [condK_bool] | rw [guardD_cases]); split <;> simp only [c166_l0, hE, hi, hp, hat.agg (n := 3) rfl, hs, hc, hn, hneg, hbig, hw, wrapS hlt hl, evX, Int.reduceEq, Int.reduceLT, Int.reduceLE, Nat.reduceMul, Nat.reduceMod, evW, evR, Nat.reduceAdd, Nat.reduceLT, Nat.reduceLeDiff, reduceIte, Nat.reduceEqDiff, reduceCtorEq, argEnv, eq_self, if_true, if_false, *])
          all_goals first | exact Sc.next (by first | (simp_all [fldOk]; done) | (simp_all [fldOk]; intros; omega)) (by rfl) | exact Sc.ret (by first | (simp_all [fldOk]; done) | (simp_all [fldOk]; intros; omega)) ⟨rfl, by first | rfl | exact ⟨rfl, rfl, rfl⟩⟩ | exact Sc.exit (by first | (simp_all [fldOk]; done) | (simp_all [fldOk]; intros; omega)) ⟨rfl, rfl⟩)
    (fun E G hE => by
      simp only [c166_l0, hE, Int.lt_irrefl, evX, Int.reduceEq, Int.reduceLT, Int.reduceLE, Nat.reduceMul, Nat.reduceMod, evW, fn_eq, evR, Nat.reduceAdd, Nat.reduceLT, Nat.reduceLeDiff, reduceIte, Nat.reduceEqDiff, reduceCtorEq, argEnv, eq_self, if_true, if_false]
      exact .exit (K := []) ⟨rfl, by rfl⟩) _ [] (by rfl) (by simp) z hz
  rcases L with ⟨ha, c, T, G, rfl, _, rfl, hT⟩ | ⟨i, r, hx, ha, _, c, T, G, rfl, _, rfl, hT⟩
  · have hlen' := (sFds (H ++ G) l).len
    simp only [List.length_map] at hlen'
    simp only [hT, hlen', evX, Int.reduceEq, Int.reduceLT, Int.reduceLE, Nat.reduceMul, Nat.reduceMod, evW, fn_eq, evR, Nat.reduceAdd, Nat.reduceLT, Nat.reduceLeDiff, reduceIte, Nat.reduceEqDiff, reduceCtorEq, argEnv, eq_self, if_true, if_false]
    all_goals (simp_all [fldsOk, tell_pos]; try (intros; omega))
  · have : fldsOk size l = false := tell_neg fun h => by rw [h i r hx] at ha; cases ha
    simp only [hT, evX, Int.reduceEq, Int.reduceLT, Int.reduceLE, Nat.reduceMul, Nat.reduceMod, evW, fn_eq, evR, Nat.reduceAdd, Nat.reduceLT, Nat.reduceLeDiff, reduceIte, Nat.reduceEqDiff, reduceCtorEq, argEnv, eq_self, if_true, if_false]
    rw [this]; rfl
end Go.Proofs.YtbdpceigmnpoaaaGreatDoor.Code

/- plain: which types are right for themselves, as the program and as the document ask. -/
set_option linter.unusedSimpArgs false
set_option linter.unusedVariables false
namespace Go.Proofs.YtbdpceigmnpoaaaGreatDoor.Code
open Go.Proofs.YtbdpceigmnpoaaaGreatDoor.Ev

noncomputable def fieldsOk (t : Ty) : Bool := fldsOk t.size t.fields && decide ((t.fields.length : Int) ≤ 5)
def keyOk (t : Ty) : Bool :=
  if t.key = -1 then !t.unique else decide (0 ≤ t.key) && match t.fields[t.key.toNat]? with
    | some f => decide (f.at' + f.bytes ≤ t.min)
    | none => false
def sizeOk (t : Ty) : Bool := decide (1 ≤ t.min) && decide (t.min ≤ t.size) && decide (t.size ≤ 40)
noncomputable def tyOk (t : Ty) : Bool := isName t.name && sizeOk t && fieldsOk t && keyOk t
theorem fld_of {t : Ty} (h : fieldsOk t = true) {i : Nat} {f : Fd} (hf : t.fields[i]? = some f) : 0 ≤ f.at' ∧ f.at' < t.size ∧ 1 ≤ f.bytes ∧ f.bytes ≤ t.size - f.at' := by
  simp only [fieldsOk, Bool.and_eq_true] at h
  have := tell_true.1 h.1 i f hf
  simp only [fldOk, Bool.and_eq_true, decide_eq_true_eq] at this
  omega
theorem wrapQ {a b : Int} (h1 : 0 ≤ a) (h2 : 0 ≤ b) (h3 : a ≤ 1000000000) (h4 : b ≤ 1000000000) : IntKind.i64.wrap (a + b) = a + b := wrap_i64 (by omega) (by omega)
/-- the four kinds of key -/
theorem key_cases (t : Ty) : t.key = -1 ∨ t.key < -1 ∨ (t.fields.length : Int) ≤ t.key ∨ ∃ (k : Nat) (f : Fd), t.key = (k : Int) ∧ t.fields[k]? = some f := by
  by_cases h1 : t.key = -1
  · exact .inl h1
  · by_cases h2 : t.key < -1
    · exact .inr (.inl h2)
    · by_cases h3 : (t.fields.length : Int) ≤ t.key
      · exact .inr (.inr (.inl h3))
      · exact .inr (.inr (.inr ⟨t.key.toNat, t.fields[t.key.toNat]'(by omega), by omega, List.getElem?_eq_getElem (by omega)⟩))
theorem key_far {t : Ty} (h : (t.fields.length : Int) ≤ t.key) : keyOk t = false := by
  unfold keyOk
  rw [if_neg (by omega), List.getElem?_eq_none (by omega)]
  simp
theorem key_neg {t : Ty} (h : t.key < -1) : keyOk t = false := by
  unfold keyOk
  rw [if_neg (by omega), decide_eq_false (by omega)]
  simp
theorem key_none {t : Ty} (h : t.key = -1) : keyOk t = !t.unique := by
  unfold keyOk
  rw [if_pos h]
theorem key_at {t : Ty} {k : Nat} {f : Fd} (h : t.key = (k : Int)) (hf : t.fields[k]? = some f) : keyOk t = decide (f.at' + f.bytes ≤ t.min) := by
  unfold keyOk
  rw [if_neg (by omega), h, decide_eq_true (by omega), Int.toNat_natCast, hf]
  simp
theorem f144 (t : Ty) (ht : t.Ok) (H : Heap) : cal (evC cprog) false 144 [.agg (rTy t)] H = some (.bool (tyOk t), H) := by
  rw [cal_of at144]
  have hn := f113 t.name ht.name
  by_cases hs : 1 ≤ t.min ∧ t.min ≤ t.size ∧ t.size ≤ 40
  · have hfl := fun H => f166 t.fields ht.fields ht.field t.size (by omega) (by omega) H
    have hsz : sizeOk t = true := by simp [sizeOk]; omega
    have n1 : ¬ t.min < 1 := by omega
    have n2 : ¬ t.size < t.min := by omega
    have n3 : ¬ 40 < t.size := by omega
    have hlen := fun H => (sFds H t.fields).len
    simp only [List.length_map] at hlen
    change ∀ H, cal (evC cprog) false 166 [eFds t.fields, .int .i64 t.size] H = some (.bool (fieldsOk t), H) at hfl
    cases hok : fieldsOk t with
    | false =>
      simp only [c144, rTy, hn, hfl, hok, n1, n2, n3, evX, Int.reduceEq, Int.reduceLT, Int.reduceLE, Nat.reduceMul, Nat.reduceMod, evW, fn_eq, evR, Nat.reduceAdd, Nat.reduceLT, Nat.reduceLeDiff, reduceIte, Nat.reduceEqDiff, reduceCtorEq, argEnv, eq_self, if_true, if_false]
      repeat' ((first | rw [guardK_cases] | rw [condK_bool] | rw [guardD_cases]); split <;> simp only [c144, rTy, hn, hfl, hok, n1, n2, n3, evX, Int.reduceEq, Int.reduceLT, Int.reduceLE, Nat.reduceMul, Nat.reduceMod, evW, evR, Nat.reduceAdd, Nat.reduceLT, Nat.reduceLeDiff, reduceIte, Nat.reduceEqDiff, reduceCtorEq, argEnv, eq_self, if_true, if_false, *])
      all_goals simp [tyOk, hok]
    | true =>
      rcases key_cases t with hk | hk | hk | ⟨k, f, hk, hf⟩
      · have hkk := key_none hk
        simp only [c144, rTy, hn, hfl, hok, n1, n2, n3, hk, evX, Int.reduceEq, Int.reduceLT, Int.reduceLE, Nat.reduceMul, Nat.reduceMod, evW, fn_eq, evR, Nat.reduceAdd, Nat.reduceLT, Nat.reduceLeDiff, reduceIte, Nat.reduceEqDiff, reduceCtorEq, argEnv, eq_self, if_true, if_false]
        repeat' ((first | rw [guardK_cases] | rw [condK_bool] | rw [guardD_cases]); split <;> simp only [c144, rTy, hn, hfl, hok, n1, n2, n3, hk, evX, Int.reduceEq, Int.reduceLT, Int.reduceLE, Nat.reduceMul, Nat.reduceMod, evW, evR, Nat.reduceAdd, Nat.reduceLT, Nat.reduceLeDiff, reduceIte, Nat.reduceEqDiff, reduceCtorEq, argEnv, eq_self, if_true, if_false, *])
        all_goals simp_all [tyOk]
      · have hkk := key_neg hk
        have k1 : ¬ t.key = -1 := by omega
        have k2 : t.key < 0 := by omega
        simp only [c144, rTy, hn, hfl, hok, n1, n2, n3, k1, k2, evX, Int.reduceEq, Int.reduceLT, Int.reduceLE, Nat.reduceMul, Nat.reduceMod, evW, fn_eq, evR, Nat.reduceAdd, Nat.reduceLT, Nat.reduceLeDiff, reduceIte, Nat.reduceEqDiff, reduceCtorEq, argEnv, eq_self, if_true, if_false]
        repeat' ((first | rw [guardK_cases] | rw [condK_bool] | rw [guardD_cases]); split <;> simp only [c144, rTy, hn, hfl, hok, n1, n2, n3, k1, k2, evX, Int.reduceEq, Int.reduceLT, Int.reduceLE, Nat.reduceMul, Nat.reduceMod, evW, evR, Nat.reduceAdd, Nat.reduceLT, Nat.reduceLeDiff, reduceIte, Nat.reduceEqDiff, reduceCtorEq, argEnv, eq_self, if_true, if_false, *])
        all_goals simp_all [tyOk]
      · have hkk := key_far hk
        have k1 : ¬ t.key = -1 := by omega
        have k2 : ¬ t.key < 0 := by omega
        have hlen' := (sFds [] t.fields).len
        simp only [List.length_map] at hlen'
        simp only [c144, rTy, hn, hfl, hok, n1, n2, n3, k1, k2, hlen', hk, evX, Int.reduceEq, Int.reduceLT, Int.reduceLE, Nat.reduceMul, Nat.reduceMod, evW, fn_eq, evR, Nat.reduceAdd, Nat.reduceLT, Nat.reduceLeDiff, reduceIte, Nat.reduceEqDiff, reduceCtorEq, argEnv, eq_self, if_true, if_false]
        repeat' ((first | rw [guardK_cases] | rw [condK_bool] | rw [guardD_cases]); split <;> simp only [c144, rTy, hn, hfl, hok, n1, n2, n3, k1, k2, hlen', hk, evX, Int.reduceEq, Int.reduceLT, Int.reduceLE, Nat.reduceMul, Nat.reduceMod, evW, evR, Nat.reduceAdd, Nat.reduceLT, Nat.reduceLeDiff, reduceIte, Nat.reduceEqDiff, reduceCtorEq, argEnv, eq_self, if_true, if_false, *])
        all_goals simp_all [tyOk]
      · have hkk := key_at hk hf
        have hk1 : ¬ (k : Int) = -1 := by omega
        have hk2 : ¬ (k : Int) < 0 := by omega
        have hk3 : ¬ (t.fields.length : Int) ≤ (k : Int) := by have := (List.getElem?_eq_some_iff.1 hf).1; omega
        have hfo := fld_of hok hf
        have hlen' := (sFds [] t.fields).len
        simp only [List.length_map] at hlen'
        have hg := fun X => (sFds (H ++ X) t.fields).get k (rFd f) (by rw [List.getElem?_map, hf]; rfl)
        obtain ⟨_, p, hp, _⟩ := (sFds [] t.fields).get k (rFd f) (by rw [List.getElem?_map, hf]; rfl)
        have hat : ∀ H, PtrAt H p (rFd f) := fun H => by
          obtain ⟨_, p', hp', h'⟩ := (sFds H t.fields).get k (rFd f) (by rw [List.getElem?_map, hf]; rfl)
          rw [hp] at hp'; cases hp'; exact h'
        have hw := wrapQ (a := f.at') (b := f.bytes) (by omega) (by omega) (by omega) (by omega)
        have hl1 := fun o s H => (hat H).fld o s
        have hl2 := fun o => (hat []).faddr o
        simp only [rFd] at hl1
        simp only [c144, rTy, hn, hfl, hok, n1, n2, n3, hk, hk1, hk2, hk3, hlen', hp, hl1, hl2, hw, evX, Int.reduceEq, Int.reduceLT, Int.reduceLE, Nat.reduceMul, Nat.reduceMod, evW, fn_eq, evR, Nat.reduceAdd, Nat.reduceLT, Nat.reduceLeDiff, reduceIte, Nat.reduceEqDiff, reduceCtorEq, argEnv, eq_self, if_true, if_false]
        repeat' ((first | rw [guardK_cases] | rw [condK_bool] | rw [guardD_cases]); split <;> simp only [c144, rTy, hn, hfl, hok, n1, n2, n3, hk, hk1, hk2, hk3, hlen', hp, hl1, hl2, hw, evX, Int.reduceEq, Int.reduceLT, Int.reduceLE, Nat.reduceMul, Nat.reduceMod, evW, evR, Nat.reduceAdd, Nat.reduceLT, Nat.reduceLeDiff, reduceIte, Nat.reduceEqDiff, reduceCtorEq, argEnv, eq_self, if_true, if_false, *])
        all_goals simp_all [tyOk]
  · have hsz : sizeOk t = false := by
      cases h : sizeOk t
      · rfl
      · simp [sizeOk] at h; omega
    have ht : tyOk t = false := by simp [tyOk, hsz]
    rw [ht]
    by_cases n1 : t.min < 1
    · simp only [c144, rTy, hn, n1, evX, Int.reduceEq, Int.reduceLT, Int.reduceLE, Nat.reduceMul, Nat.reduceMod, evW, fn_eq, evR, Nat.reduceAdd, Nat.reduceLT, Nat.reduceLeDiff, reduceIte, Nat.reduceEqDiff, reduceCtorEq, argEnv, eq_self, if_true, if_false]
      repeat' ((first | rw [guardK_cases] | rw [condK_bool] | rw [guardD_cases]); split <;> simp only [c144, rTy, hn, n1, evX, Int.reduceEq, Int.reduceLT, Int.reduceLE, Nat.reduceMul, Nat.reduceMod, evW, evR, Nat.reduceAdd, Nat.reduceLT, Nat.reduceLeDiff, reduceIte, Nat.reduceEqDiff, reduceCtorEq, argEnv, eq_self, if_true, if_false, *])
    · by_cases n2 : t.size < t.min
      · simp only [c144, rTy, hn, n1, n2, evX, Int.reduceEq, Int.reduceLT, Int.reduceLE, Nat.reduceMul, Nat.reduceMod, evW, fn_eq, evR, Nat.reduceAdd, Nat.reduceLT, Nat.reduceLeDiff, reduceIte, Nat.reduceEqDiff, reduceCtorEq, argEnv, eq_self, if_true, if_false]
        repeat' ((first | rw [guardK_cases] | rw [condK_bool] | rw [guardD_cases]); split <;> simp only [c144, rTy, hn, n1, n2, evX, Int.reduceEq, Int.reduceLT, Int.reduceLE, Nat.reduceMul, Nat.reduceMod, evW, evR, Nat.reduceAdd, Nat.reduceLT, Nat.reduceLeDiff, reduceIte, Nat.reduceEqDiff, reduceCtorEq, argEnv, eq_self, if_true, if_false, *])
      · have n3 : 40 < t.size := by omega
        simp only [c144, rTy, hn, n1, n2, n3, evX, Int.reduceEq, Int.reduceLT, Int.reduceLE, Nat.reduceMul, Nat.reduceMod, evW, fn_eq, evR, Nat.reduceAdd, Nat.reduceLT, Nat.reduceLeDiff, reduceIte, Nat.reduceEqDiff, reduceCtorEq, argEnv, eq_self, if_true, if_false]
        repeat' ((first | rw [guardK_cases] | rw [condK_bool] | rw [guardD_cases]); split <;> simp only [c144, rTy, hn, n1, n2, n3, evX, Int.reduceEq, Int.reduceLT, Int.reduceLE, Nat.reduceMul, Nat.reduceMod, evW, evR, Nat.reduceAdd, Nat.reduceLT, Nat.reduceLeDiff, reduceIte, Nat.reduceEqDiff, reduceCtorEq, argEnv, eq_self, if_true, if_false, *])
end Go.Proofs.YtbdpceigmnpoaaaGreatDoor.Code

/- plain: the hierarchy of types (mathematics). -/
set_option linter.unusedSimpArgs false
set_option linter.unusedVariables false
namespace Go.Proofs.YtbdpceigmnpoaaaGreatDoor.Code
open Go.Proofs.YtbdpceigmnpoaaaGreatDoor.Ev

/-- the way from the root to a type -/
def anc (ts : List Ty) (k : Nat) : List Int :=
  match ts[k]? with
  | some t => if h : 0 ≤ t.parent ∧ t.parent.toNat < k then anc ts t.parent.toNat ++ [(k : Int)] else [(k : Int)]
  | none => [(k : Int)]
termination_by k
theorem anc_root {ts : List Ty} {k : Nat} (h : ∀ t, ts[k]? = some t → t.parent < 0) : anc ts k = [(k : Int)] := by
  rw [anc]
  split
  · rename_i t ht
    rw [dif_neg (by have := h t ht; omega)]
  · rfl
theorem anc_up {ts : List Ty} {k p : Nat} {t : Ty} (ht : ts[k]? = some t) (hp : t.parent = (p : Int)) (hk : p < k) : anc ts k = anc ts p ++ [(k : Int)] := by
  rw [anc, ht]
  simp only [hp]
  rw [dif_pos (by constructor <;> omega)]
  simp
theorem anc_le (ts : List Ty) : ∀ (n k : Nat), k ≤ n → ∀ x ∈ anc ts k, 0 ≤ x ∧ x ≤ k := by
  intro n
  induction n with
  | zero =>
    intro k hk x hx
    have : k = 0 := by omega
    subst this
    rw [anc] at hx
    split at hx
    · rw [dif_neg (by omega)] at hx; simp at hx; omega
    · simp at hx; omega
  | succ n ih =>
    intro k hk x hx
    rw [anc] at hx
    split at hx
    · rename_i t ht
      split at hx
      · rename_i h
        rcases List.mem_append.1 hx with hx | hx
        · have := ih _ (by omega) x hx; omega
        · simp at hx; omega
      · simp at hx; omega
    · simp at hx; omega
theorem anc_bound {ts : List Ty} {k : Nat} {x : Int} (hx : x ∈ anc ts k) : 0 ≤ x ∧ x ≤ k := anc_le ts k k (Nat.le_refl _) x hx
theorem anc_self (ts : List Ty) (k : Nat) : (k : Int) ∈ anc ts k := by
  rw [anc]
  split
  · split <;> simp
  · simp
theorem anc_len (ts : List Ty) : ∀ (n k : Nat), k ≤ n → (anc ts k).length ≤ k + 1 := by
  intro n
  induction n with
  | zero =>
    intro k hk
    have : k = 0 := by omega
    subst this
    rw [anc]
    split
    · rw [dif_neg (by omega)]; simp
    · simp
  | succ n ih =>
    intro k hk
    rw [anc]
    split
    · rename_i t ht
      split
      · rename_i h
        have := ih t.parent.toNat (by omega)
        rw [List.length_append, List.length_singleton]; omega
      · simp
    · simp
/-- where a type stands on a way, and what is ahead of it -/
theorem idx_anc (ts : List Ty) : ∀ (n k : Nat), k ≤ n → ∀ p : Nat, (p : Int) ∈ anc ts k →
    ∃ j : Nat, idxOf (fun x => decide ((p : Int) = x)) (anc ts k) = (j : Int) ∧ j < (anc ts k).length ∧ (anc ts k).take (j + 1) = anc ts p := by
  intro n
  induction n with
  | zero =>
    intro k hk p hp
    have : k = 0 := by omega
    subst this
    have hb := anc_bound hp
    have : p = 0 := by omega
    subst this
    have e : anc ts 0 = [(0 : Int)] := by
      rw [anc]
      split
      · rw [dif_neg (by omega)]; rfl
      · rfl
    rw [e]
    exact ⟨0, rfl, by simp, rfl⟩
  | succ n ih =>
    intro k hk p hp
    have one : anc ts k = [(k : Int)] → ∃ j : Nat, idxOf (fun x => decide ((p : Int) = x)) (anc ts k) = (j : Int) ∧ j < (anc ts k).length ∧ (anc ts k).take (j + 1) = anc ts p := by
      intro e
      rw [e] at hp
      have : p = k := by have := List.mem_singleton.1 hp; omega
      subst this
      rw [e]
      exact ⟨0, by simp [idxOf], by simp, rfl⟩
    cases ht : ts[k]? with
    | none => exact one (by rw [anc, ht])
    | some t =>
      by_cases h : 0 ≤ t.parent ∧ t.parent.toNat < k
      · have e : anc ts k = anc ts t.parent.toNat ++ [(k : Int)] := anc_up ht (by omega) h.2
        by_cases hpk : p = k
        · subst hpk
          rw [e]
          refine ⟨(anc ts t.parent.toNat).length, ?_, by simp, ?_⟩
          · unfold idxOf
            rw [List.findIdx?_append, List.findIdx?_eq_none_iff.2 (by
              intro x hx
              have := anc_bound hx
              simp; omega)]
            simp [List.findIdx?_cons]
          · rw [List.take_of_length_le (by simp)]
        · have hp' : (p : Int) ∈ anc ts t.parent.toNat := by
            rw [e] at hp
            rcases List.mem_append.1 hp with hp | hp
            · exact hp
            · simp at hp; omega
          obtain ⟨j, h1, h2, h3⟩ := ih _ (by omega) p hp'
          rw [e]
          refine ⟨j, ?_, by simp; omega, by rw [List.take_append_of_le_length (by omega), h3]⟩
          unfold idxOf at h1 ⊢
          rw [List.findIdx?_append]
          split at h1
          · rename_i i hi
            simp [hi]; omega
          · omega
      · exact one (by rw [anc, ht]; simp only; rw [dif_neg h])
theorem idx_none {l : List Int} {p : Int} (h : p ∉ l) : idxOf (fun x => decide (p = x)) l = -1 := by
  unfold idxOf
  rw [List.findIdx?_eq_none_iff.2 (by intro x hx; simp; rintro rfl; exact h hx)]
/-- the way to the type in front of one -/
def wayTo (ts : List Ty) : Nat → List Int
  | 0 => []
  | i + 1 => anc ts i
def rootOk (t : Ty) : Bool := decide (t.parent = -1) && decide (0 ≤ t.key) && t.unique && match t.fields[t.key.toNat]? with
  | some f => decide (f.bytes ≤ 24)
  | none => false
/-- what is asked of a type among others -/
noncomputable def tyAt (ts : List Ty) (i : Nat) (t : Ty) : Bool :=
  tyOk t && !((ts.take i).any fun u => decide (u.name = t.name)) && (if i = 0 then rootOk t else decide (t.parent ∈ wayTo ts i)) && decide (((anc ts i).length : Int) ≤ 5)
noncomputable def tysOk (ts : List Ty) : Bool := tell (∀ (i : Nat) (t : Ty), ts[i]? = some t → tyAt ts i t = true)
theorem parent_of {ts : List Ty} {i : Nat} {t : Ty} (h : tyAt ts i t = true) (hi : i ≠ 0) : ∃ p : Nat, t.parent = (p : Int) ∧ p < i ∧ (p : Int) ∈ anc ts (i - 1) := by
  obtain ⟨j, rfl⟩ : ∃ j, i = j + 1 := ⟨i - 1, by omega⟩
  simp only [tyAt, Bool.and_eq_true, if_neg hi, decide_eq_true_eq, wayTo] at h
  have hm := of_decide_eq_true h.1.2
  have hb := anc_bound hm
  exact ⟨t.parent.toNat, by omega, by omega, by rw [show ((t.parent.toNat : Nat) : Int) = t.parent by omega]; exact hm⟩
theorem parent_root {ts : List Ty} {t : Ty} (h : tyAt ts 0 t = true) : t.parent = -1 := by
  simp only [tyAt, Bool.and_eq_true, if_true, rootOk, decide_eq_true_eq] at h
  exact h.1.2.1.1.1
end Go.Proofs.YtbdpceigmnpoaaaGreatDoor.Code

/- plain: which types stand in a hierarchy, as the program asks. -/
set_option linter.unusedSimpArgs false
set_option linter.unusedVariables false
namespace Go.Proofs.YtbdpceigmnpoaaaGreatDoor.Code
open Go.Proofs.YtbdpceigmnpoaaaGreatDoor.Ev

def rI (n : Int) : List AV := [.int .i64 n]
def eIs (l : List Int) : AV := .lst (l.map rI)
theorem lI (n : Int) : Loads false 1 (rI n) (.int .i64 n) := ⟨rfl, rfl, rfl⟩
theorem sIs (H : Heap) (l : List Int) : SlAt H 1 (eIs l) (l.map rI) := sLst rI (fun _ => rfl) H l
theorem f110 (n : Int) (H : Heap) (a : AV) (l : List Int) (ha : SlAt H 1 a (l.map rI)) (hl : l.length < 9223372036854775807) : cal (evC cprog) false 110 [a, .int .i64 n] H = some (.int .i64 (idxOf (fun x => decide (n = x)) l), H) := by
  refine indexFunc_at (test := tEq) (ag := false) (sz := 1) at110 rI (fun x => .int .i64 x) lI _ _ H a l ha hl fun x hx T h1 h2 => ?_
  simp only [tEq, h1, h2, evR, Nat.reduceAdd, Nat.reduceLT, Nat.reduceLeDiff, reduceIte, Nat.reduceEqDiff, reduceCtorEq, argEnv, eq_self, if_true, if_false]
theorem f146 (g f : Ty) (b : Nat) (H : Heap) (hb : H[b]? = some ⟨0, true, 61, 8, [rTy f]⟩) : cal (evC cprog) false 146 [.agg (rTy g), .ptr b 0 8 0 0] H = some (.bool (decide (g.name = f.name)), H) := by
  rw [cal_of at146]
  have hb' : ∀ X, (H ++ X)[b]? = some ⟨0, true, 61, 8, [rTy f]⟩ := fun X => by
    rw [List.getElem?_append_left (List.getElem?_eq_some_iff.1 hb).1]; exact hb
  simp only [rTy] at hb'
  simp only [c146, rTy, hb', evX, Int.reduceEq, Int.reduceLT, Int.reduceLE, Nat.reduceMul, Nat.reduceMod, evW, fn_eq, evR, Nat.reduceAdd, Nat.reduceLT, Nat.reduceLeDiff, reduceIte, Nat.reduceEqDiff, reduceCtorEq, argEnv, eq_self, if_true, if_false]
theorem f145 (l : List Ty) (hl : l.length < 9223372036854775807) (f : Ty) (b : Nat) (H : Heap) (hb : H[b]? = some ⟨0, true, 61, 8, [rTy f]⟩) : cal (evC cprog) false 145 [eTys l, .fn 146 [.ptr b 0 8 0 0]] H = some (.bool (l.any fun g => decide (g.name = f.name)), H) :=
  containsFunc_ok (g := 167) at145 (indexFunc_ok (sz := 8) (ag := true) at167 _ _ lTy 146 [_] _ H _ l (sTys H l) hl fun g _ => f146 g f b H hb)
theorem PtrLst.at {α : Type} (row : α → List AV) {sz : Nat} (hr : ∀ x, (row x).length = sz) (l : List α) {i : Nat} {x : α} (hx : l[i]? = some x) :
    ∃ p, iaddrK sz (some (.lst (l.map row))) (some (.int .i64 (i : Int))) = some p ∧ ∀ H, PtrAt H p (row x) := by
  obtain ⟨_, p, h1, h2⟩ := (sLst row hr [] l).get i (row x) (by rw [List.getElem?_map, hx]; rfl)
  refine ⟨p, h1, fun H => ?_⟩
  obtain ⟨_, p', h3, h4⟩ := (sLst row hr H l).get i (row x) (by rw [List.getElem?_map, hx]; rfl)
  rw [h1] at h3; cases h3; exact h4
theorem wayTo_len (ts : List Ty) (i : Nat) : (wayTo ts i).length ≤ i := by
  cases i with
  | zero => simp [wayTo]
  | succ i => exact anc_len ts i i (Nat.le_refl _)
theorem tys_bad {ts : List Ty} {i : Nat} {t : Ty} (ht : ts[i]? = some t) (h : tyAt ts i t = false) : tysOk ts = false := tell_neg fun h' => by rw [h' i t ht] at h; cases h
theorem ty_root {ts : List Ty} {t : Ty} (h : rootOk t = false) : tyAt ts 0 t = false := by simp [tyAt, h]
theorem l114 (ts : List Ty) (hl : ts.length ≤ 8) (hok : ∀ t ∈ ts, t.Ok) (H : Heap) (st : St)
    (hE : keepEnv st.1 [0, 3, 15, 16, 17] = [(0, eTys ts), (3, .nils), (15, eTys ts), (16, .int .i64 (ts.length : Int)), (17, .int .i64 0)]) (hH : st.2 = H) (z : Option (CX × St)) (hz : itLim (evCode (evC cprog) itLim c114_l0) st = z) :
    ∃ c T X, z = some (c, T, H ++ X) ∧ ((tysOk ts = true ∧ c = .exit 0) ∨ (tysOk ts = false ∧ c = .ret ∧ get T 2 = some (.bool false))) := by
  have L := loop_rule (σ := Nat × Heap × AV) (m := [0, 3, 15, 16, 17]) (env := fun i => [(0, eTys ts), (3, i.2.2), (15, eTys ts), (16, .int .i64 (ts.length : Int)), (17, .int .i64 (i.1 : Int))]) (hp := fun i => H ++ i.2.1)
    (P := fun i r => ∃ c T X, r = (c, T, H ++ X) ∧ ((tysOk ts = true ∧ c = .exit 0) ∨ (tysOk ts = false ∧ c = .ret ∧ get T 2 = some (.bool false))))
    (mu := fun i => ts.length - i.1) (I := fun i => i.1 ≤ ts.length ∧ (∀ j t, j < i.1 → ts[j]? = some t → tyAt ts j t = true) ∧ Out H.length 1 3 i.2.1 i.2.2 ((wayTo ts i.1).map rI)) (evCode (evC cprog) itLim c114_l0) ?_ (0, [], .nils) st ⟨by simp, fun j t h => by simp at h, .nils ..⟩ hE (by simpa using hH) z hz
  · obtain ⟨r, rfl, c, T, X, rfl, h⟩ := L
    exact ⟨c, T, X, rfl, h⟩
  · intro ⟨i, X, rv⟩ ⟨hi, hpre, hO⟩ E hE
    simp only at hi hpre hO hE ⊢
    by_cases hlt : i < ts.length
    · obtain ⟨t, ht⟩ : ∃ t, ts[i]? = some t := ⟨_, List.getElem?_eq_getElem hlt⟩
      have hi1 : (i : Int) < (ts.length : Int) := by omega
      have htk := hok t (List.mem_of_getElem? ht)
      obtain ⟨p, hp, hat⟩ := PtrLst.at rTy (sz := 8) (fun _ => rfl) ts ht
      change iaddrK 8 (some (eTys ts)) _ = _ at hp
      have hag := fun H => (hat H).agg (n := 8) rfl
      have hdup := f145 (ts.take i) (by rw [List.length_take]; omega) t (H.length + X.length) (H ++ (X ++ [⟨0, true, 61, 8, [rTy t]⟩])) (by simp)
      have hs := fun H => slc_take rTy (sz := 8) (fun _ => rfl) H ts (i := i) (by omega)
      change ∀ H, evSlc H 8 (eTys ts) none (some i) none = some (eTys (ts.take i)) at hs
      have h77 := f144 t htk
      have hway := out_slat (hO.more [⟨0, true, 61, 8, [rTy t]⟩]) H rfl (fun r hr => by obtain ⟨n, _, rfl⟩ := List.mem_map.1 hr; rfl)
      have hidx := f110 t.parent (H ++ (X ++ [⟨0, true, 61, 8, [rTy t]⟩])) rv (wayTo ts i) hway (by have := wayTo_len ts i; omega)
      simp only [rTy] at hag hdup h77 hidx
      cases hA : tyOk t with
      | false =>
        simp only [c114_l0, hE, hi1, hp, hag, h77, hA, evX, Int.reduceEq, Int.reduceLT, Int.reduceLE, Nat.reduceMul, Nat.reduceMod, evW, fn_eq, evR, Nat.reduceAdd, Nat.reduceLT, Nat.reduceLeDiff, reduceIte, Nat.reduceEqDiff, reduceCtorEq, argEnv, eq_self, if_true, if_false]
        refine q_ret ⟨_, _, _, rfl, .inr ⟨tys_bad ht (by simp [tyAt, hA]), rfl, by rfl⟩⟩
      | true =>
        cases hB : (ts.take i).any fun u => decide (u.name = t.name) with
        | true =>
          simp only [c114_l0, hE, hi1, hp, hag, h77, hA, hs, hdup, hB, evX, Int.reduceEq, Int.reduceLT, Int.reduceLE, Nat.reduceMul, Nat.reduceMod, evW, fn_eq, evR, Nat.reduceAdd, Nat.reduceLT, Nat.reduceLeDiff, reduceIte, Nat.reduceEqDiff, reduceCtorEq, argEnv, eq_self, if_true, if_false]
          refine q_ret ⟨_, _, _, rfl, .inr ⟨tys_bad ht (by simp [tyAt, hB]), rfl, by rfl⟩⟩
        | false =>
          have fin : ∀ (k : Nat) (a : Int), idxOf (fun x => decide (t.parent = x)) (wayTo ts i) = a → IntKind.i64.wrap (a + 1) = (k : Int) → k ≤ (wayTo ts i).length → (wayTo ts i).take k ++ [(i : Int)] = anc ts i →
              ∃ sv rv' X', sv.isTup = false ∧ (∀ Y, evSlc Y 1 rv none (some k) none = some sv) ∧ appK 3 1 8 false (H ++ (X ++ [⟨0, true, 61, 8, [rTy t]⟩, ⟨0, true, 3, 1, [[.int .i64 (i : Int)]]⟩])) (some sv) (some (.ref (H.length + (X.length + 1)) 0 1 0 1)) = some (rv', H ++ X') ∧ rv'.isTup = false ∧ Out H.length 1 3 X' rv' ((anc ts i).map rI) := by
            intro k a h1 h2 h3 h4
            obtain ⟨sv, g1, g2, g3⟩ := hO.cut H rfl (k := k) (by rw [List.length_map]; exact h3)
            have hsr : srcRows (H ++ (X ++ [⟨0, true, 61, 8, [rTy t]⟩, ⟨0, true, 3, 1, [[.int .i64 (i : Int)]]⟩])) (.ref (H.length + (X.length + 1)) 0 1 0 1) = some [[.int .i64 (i : Int)]] := by
              simp [srcRows, rowsOf, curBlk, at_app]
            have hb : (k + [[AV.int .i64 (i : Int)]].length) * 8 ≤ reach ∧ k + [[AV.int .i64 (i : Int)]].length ≤ reach := by
              have := wayTo_len ts i
              simp only [List.length_singleton, reach]; omega
            obtain ⟨rv', X', k1, k2, k3⟩ := g3 [⟨0, true, 61, 8, [rTy t]⟩, ⟨0, true, 3, 1, [[.int .i64 (i : Int)]]⟩] 8 _ _ (by simp) hsr (by rfl) hb.1 hb.2
            refine ⟨sv, rv', X', g1, g2, k1, k2, ?_⟩
            rw [← h4, List.map_append, List.map_take]
            exact k3
          by_cases h0 : i = 0
          · subst h0
            have e0 : decide (((0 : Nat) : Int) = 0) = true := rfl
            have e00 : decide ((0 : Int) < ((0 : Nat) : Int)) = false := rfl
            have e1 : decide ((5 : Int) < ((1 : Nat) : Int)) = false := rfl
            have w1 : IntKind.i64.wrap (((0 : Nat) : Int) + 1) = ((1 : Nat) : Int) := rfl
            simp only [List.take_zero, List.any_nil] at hdup hs
            rcases key_cases t with hk | hk | hk | ⟨k, f, hk, hf⟩
            · have hr0 : rootOk t = false := by simp [rootOk, hk]
              have k2 : t.key < 0 := by omega
              simp only [c114_l0, hE, hi1, hp, hag, h77, hA, hs, hdup, e0, e00, e1, w1, hidx, k2, evX, Int.reduceEq, Int.reduceLT, Int.reduceLE, Nat.reduceMul, Nat.reduceMod, evW, fn_eq, evR, Nat.reduceAdd, Nat.reduceLT, Nat.reduceLeDiff, reduceIte, Nat.reduceEqDiff, reduceCtorEq, argEnv, eq_self, if_true, if_false]
              repeat' ((first | rw [guardK_cases] | rw [condK_bool] | rw [guardD_cases]); split <;> simp only [c114_l0, hE, hi1, hp, hag, h77, hA, hs, hdup, e0, e00, e1, w1, hidx, k2, evX, Int.reduceEq, Int.reduceLT, Int.reduceLE, Nat.reduceMul, Nat.reduceMod, evW, evR, Nat.reduceAdd, Nat.reduceLT, Nat.reduceLeDiff, reduceIte, Nat.reduceEqDiff, reduceCtorEq, argEnv, eq_self, if_true, if_false, *])
              all_goals exact q_ret ⟨_, _, _, rfl, .inr ⟨tys_bad ht (ty_root hr0), rfl, by rfl⟩⟩
            · have := key_neg hk; simp [tyOk, this] at hA
            · have := key_far hk; simp [tyOk, this] at hA
            · have hk2 : ¬ (k : Int) < 0 := by omega
              obtain ⟨q, hq, hqt⟩ := PtrLst.at rFd (sz := 3) (fun _ => rfl) t.fields hf
              change iaddrK 3 (some (eFds t.fields)) _ = _ at hq
              have hl1 := fun o s H => (hqt H).fld o s
              have hl2 := fun o => (hqt []).faddr o
              simp only [rFd] at hl1
              simp only [rTy] at fin
              simp only [hk] at hag hdup h77 hidx fin
              cases hr : rootOk t with
              | false =>
                have hr' : t.parent = -1 → t.unique = true → ¬ f.bytes ≤ 24 := by
                  intro h1 h2 h3
                  simp [rootOk, h1, h2, hk, hf, h3] at hr
                simp only [c114_l0, hE, hi1, hp, hag, h77, hA, hs, hdup, e0, e00, e1, w1, hidx, hk2, hq, hl1, hl2, evX, Int.reduceEq, Int.reduceLT, Int.reduceLE, Nat.reduceMul, Nat.reduceMod, evW, fn_eq, evR, Nat.reduceAdd, Nat.reduceLT, Nat.reduceLeDiff, reduceIte, Nat.reduceEqDiff, reduceCtorEq, argEnv, eq_self, if_true, if_false]
                repeat' ((first | rw [guardK_cases] | rw [condK_bool] | rw [guardD_cases]); split <;> simp only [c114_l0, hE, hi1, hp, hag, h77, hA, hs, hdup, e0, e00, e1, w1, hidx, hk2, hq, hl1, hl2, evX, Int.reduceEq, Int.reduceLT, Int.reduceLE, Nat.reduceMul, Nat.reduceMod, evW, evR, Nat.reduceAdd, Nat.reduceLT, Nat.reduceLeDiff, reduceIte, Nat.reduceEqDiff, reduceCtorEq, argEnv, eq_self, if_true, if_false, *])
                all_goals first | exact q_ret ⟨_, _, _, rfl, .inr ⟨tys_bad ht (ty_root hr), rfl, by rfl⟩⟩ | (exfalso; simp_all; done) | (exfalso; simp_all; omega)
              | true =>
                simp only [rootOk, hk, hf, Bool.and_eq_true, decide_eq_true_eq, Int.toNat_natCast] at hr
                obtain ⟨⟨⟨hr1, _⟩, hr2⟩, hr3⟩ := hr
                have hr4 : ¬ 24 < f.bytes := by omega
                have hanc : anc ts 0 = [((0 : Nat) : Int)] := anc_root fun t' ht' => by rw [ht] at ht'; cases ht'; omega
                obtain ⟨sv, rv', X', g1, g2, g3, g4, g5⟩ := fin 0 (-1) (by rfl) (by rfl) (by simp) (by simp [hanc])
                have hgood : tyAt ts 0 t = true := by simp [tyAt, hA, rootOk, hr1, hr2, hr3, hk, hf, hanc]
                have hlen := out_len g5
                simp only [hanc, List.map_cons, List.map_nil, List.length_singleton] at hlen
                have hidx0 : idxOf (fun x => decide (t.parent = x)) (wayTo ts 0) = -1 := rfl
                have w0 : IntKind.i64.wrap (-1 + 1) = 0 := by rfl
                simp only [hr1, hr2] at hag hdup h77 hidx hidx0 g3
                simp only [c114_l0, hE, hi1, hp, hag, h77, hA, hs, hdup, e0, e00, e1, w1, hidx, hidx0, w0, hk2, hq, hl1, hl2, hr1, hr2, hr4, g1, g2, g3, g4, hlen, evX, Int.reduceEq, Int.reduceLT, Int.reduceLE, Nat.reduceMul, Nat.reduceMod, evW, fn_eq, evR, Nat.reduceAdd, Nat.reduceLT, Nat.reduceLeDiff, reduceIte, Nat.reduceEqDiff, reduceCtorEq, argEnv, eq_self, if_true, if_false]
                all_goals refine q_next (1, X', rv') (by rfl) rfl ⟨by omega, fun j t' hj ht' => ?_, g5⟩ (by simp only; omega) fun r h => h
                all_goals
                  obtain rfl : j = 0 := by omega
                  rw [ht] at ht'; cases ht'; exact hgood
          · have n0 : decide ((i : Int) = 0) = false := decide_eq_false (by omega)
            have n1 : decide ((0 : Int) < (i : Int)) = true := decide_eq_true (by omega)
            by_cases hm : t.parent ∈ wayTo ts i
            · obtain ⟨j, hj⟩ : ∃ j, i = j + 1 := ⟨i - 1, by omega⟩
              have hw0 : wayTo ts i = anc ts j := by rw [hj]; rfl
              have hm' := hm
              rw [hw0] at hm'
              have hb := anc_bound hm'
              have hpar : t.parent = ((t.parent.toNat : Nat) : Int) := by omega
              obtain ⟨m, h1, h2, h3⟩ := idx_anc ts j j (Nat.le_refl _) t.parent.toNat (by rw [← hpar]; exact hm')
              rw [← hpar, ← hw0] at h1
              rw [← hw0] at h2 h3
              have hml := wayTo_len ts i
              have hanc : (wayTo ts i).take (m + 1) ++ [(i : Int)] = anc ts i := by rw [h3, anc_up ht hpar (by omega)]
              have hwm : IntKind.i64.wrap ((m : Int) + 1) = ((m + 1 : Nat) : Int) := by rw [wrap_i64 (by omega) (by omega)]; rfl
              obtain ⟨sv, rv', X', g1, g2, g3, g4, g5⟩ := fin (m + 1) m h1 hwm (by omega) hanc
              have hlen := out_len g5
              rw [List.length_map] at hlen
              simp only [rTy] at g3
              have hm0 : ¬ (m : Int) < 0 := by omega
              have hwi := wrapS hlt (by omega)
              cases h5 : decide (((anc ts i).length : Int) ≤ 5) with
              | true =>
                have n5 : decide ((5 : Int) < ((anc ts i).length : Int)) = false := by simp at h5 ⊢; exact h5
                have hgood : tyAt ts i t = true := by simp [tyAt, hA, hB, h0, hm, h5]
                simp only [c114_l0, hE, hi1, hp, hag, h77, hA, hs, hdup, hB, hidx, h1, hwm, hwi, n0, n1, n5, hm0, g1, g2, g3, g4, hlen, evX, Int.reduceEq, Int.reduceLT, Int.reduceLE, Nat.reduceMul, Nat.reduceMod, evW, fn_eq, evR, Nat.reduceAdd, Nat.reduceLT, Nat.reduceLeDiff, reduceIte, Nat.reduceEqDiff, reduceCtorEq, argEnv, eq_self, if_true, if_false]
                all_goals refine q_next (i + 1, X', rv') (by rfl) rfl ⟨by omega, fun j t' hj ht' => ?_, g5⟩ (by simp only; omega) fun r h => h
                all_goals
                  by_cases hji : j < i
                  · exact hpre j t' hji ht'
                  · obtain rfl : j = i := by omega
                    rw [ht] at ht'; cases ht'; exact hgood
              | false =>
                have n5 : decide ((5 : Int) < ((anc ts i).length : Int)) = true := by simp at h5 ⊢; omega
                have hbad : tyAt ts i t = false := by simp [tyAt, h5]
                simp only [c114_l0, hE, hi1, hp, hag, h77, hA, hs, hdup, hB, hidx, h1, hwm, hwi, n0, n1, n5, hm0, g1, g2, g3, g4, hlen, evX, Int.reduceEq, Int.reduceLT, Int.reduceLE, Nat.reduceMul, Nat.reduceMod, evW, fn_eq, evR, Nat.reduceAdd, Nat.reduceLT, Nat.reduceLeDiff, reduceIte, Nat.reduceEqDiff, reduceCtorEq, argEnv, eq_self, if_true, if_false]
                all_goals exact q_ret ⟨_, _, _, rfl, .inr ⟨tys_bad ht hbad, rfl, by rfl⟩⟩
            · have h1 := idx_none hm
              have hbad : tyAt ts i t = false := by simp [tyAt, h0, hm]
              have m1 : decide ((-1 : Int) < 0) = true := rfl
              simp only [c114_l0, hE, hi1, hp, hag, h77, hA, hs, hdup, hB, hidx, h1, n0, n1, m1, evX, Int.reduceEq, Int.reduceLT, Int.reduceLE, Nat.reduceMul, Nat.reduceMod, evW, fn_eq, evR, Nat.reduceAdd, Nat.reduceLT, Nat.reduceLeDiff, reduceIte, Nat.reduceEqDiff, reduceCtorEq, argEnv, eq_self, if_true, if_false]
              all_goals exact q_ret ⟨_, _, _, rfl, .inr ⟨tys_bad ht hbad, rfl, by rfl⟩⟩
    · have hi1 : ¬ (i : Int) < (ts.length : Int) := by omega
      simp only [c114_l0, hE, hi1, evX, Int.reduceEq, Int.reduceLT, Int.reduceLE, Nat.reduceMul, Nat.reduceMod, evW, fn_eq, evR, Nat.reduceAdd, Nat.reduceLT, Nat.reduceLeDiff, reduceIte, Nat.reduceEqDiff, reduceCtorEq, argEnv, eq_self, if_true, if_false]
      refine q_exit ⟨_, _, _, rfl, .inl ⟨tell_pos fun j t hj => hpre j t ?_ hj, rfl⟩⟩
      have := (List.getElem?_eq_some_iff.1 hj).1; omega
noncomputable def areTys (ts : List Ty) : Bool := decide ((1 : Int) ≤ ts.length) && decide ((ts.length : Int) ≤ 8) && tysOk ts
theorem f114 (ts : List Ty) (hok : ∀ t ∈ ts, t.Ok) (H : Heap) : cal (evC cprog) false 114 [eTys ts] H = some (.bool (areTys ts), H) := by
  rw [cal_of at114]
  have hlen := (sTys [] ts).len
  simp only [List.length_map] at hlen
  by_cases h1 : (ts.length : Int) < 1
  · simp only [c114, hlen, h1, evX, Int.reduceEq, Int.reduceLT, Int.reduceLE, Nat.reduceMul, Nat.reduceMod, evW, fn_eq, evR, Nat.reduceAdd, Nat.reduceLT, Nat.reduceLeDiff, reduceIte, Nat.reduceEqDiff, reduceCtorEq, argEnv, eq_self, if_true, if_false]
    have : decide ((1 : Int) ≤ ts.length) = false := decide_eq_false (by omega)
    simp only [areTys, this, Bool.false_and]
  by_cases h8 : (8 : Int) < (ts.length : Int)
  · simp only [c114, hlen, h1, h8, evX, Int.reduceEq, Int.reduceLT, Int.reduceLE, Nat.reduceMul, Nat.reduceMod, evW, fn_eq, evR, Nat.reduceAdd, Nat.reduceLT, Nat.reduceLeDiff, reduceIte, Nat.reduceEqDiff, reduceCtorEq, argEnv, eq_self, if_true, if_false]
    have : decide ((ts.length : Int) ≤ 8) = false := decide_eq_false (by omega)
    simp only [areTys, this, Bool.false_and, Bool.and_false]
  simp only [c114, hlen, h1, h8, evX, Int.reduceEq, Int.reduceLT, Int.reduceLE, Nat.reduceMul, Nat.reduceMod, evW, fn_eq, evR, Nat.reduceAdd, Nat.reduceLT, Nat.reduceLeDiff, reduceIte, Nat.reduceEqDiff, reduceCtorEq, argEnv, eq_self, if_true, if_false]
  have ha : areTys ts = tysOk ts := by simp [areTys]; omega
  rw [ha]
  generalize hz : itLim _ _ = z
  obtain ⟨c, T, X, rfl, h⟩ := l114 ts (by omega) hok H _ (by rfl) (by rfl) z hz
  rcases h with ⟨h, rfl⟩ | ⟨h, rfl, hT⟩
  · rw [h]
    simp only [h, evX, Int.reduceEq, Int.reduceLT, Int.reduceLE, Nat.reduceMul, Nat.reduceMod, evW, fn_eq, evR, Nat.reduceAdd, Nat.reduceLT, Nat.reduceLeDiff, reduceIte, Nat.reduceEqDiff, reduceCtorEq, argEnv, eq_self, if_true, if_false]
  · rw [h]
    simp only [hT, evX, Int.reduceEq, Int.reduceLT, Int.reduceLE, Nat.reduceMul, Nat.reduceMod, evW, fn_eq, evR, Nat.reduceAdd, Nat.reduceLT, Nat.reduceLeDiff, reduceIte, Nat.reduceEqDiff, reduceCtorEq, argEnv, eq_self, if_true, if_false]
end Go.Proofs.YtbdpceigmnpoaaaGreatDoor.Code

/- What a loop collects: numbers. -/
set_option linter.unusedSimpArgs false
set_option linter.unusedVariables false
namespace Go.Proofs.YtbdpceigmnpoaaaGreatDoor.Code
open Go.Proofs.YtbdpceigmnpoaaaGreatDoor.Ev

end Go.Proofs.YtbdpceigmnpoaaaGreatDoor.Code

/- plain: which indexes and bases are right, as the program asks. -/
set_option linter.unusedSimpArgs false
set_option linter.unusedVariables false
namespace Go.Proofs.YtbdpceigmnpoaaaGreatDoor.Code
open Go.Proofs.YtbdpceigmnpoaaaGreatDoor.Ev

theorem f148 (g f : Se) (b : Nat) (H : Heap) (hb : H[b]? = some ⟨0, true, 125, 4, [rSe f]⟩) : cal (evC cprog) false 148 [.agg (rSe g), .ptr b 0 4 0 0] H = some (.bool (decide (g.name = f.name)), H) := by
  rw [cal_of at148]
  have hb' : ∀ X, (H ++ X)[b]? = some ⟨0, true, 125, 4, [rSe f]⟩ := fun X => by
    rw [List.getElem?_append_left (List.getElem?_eq_some_iff.1 hb).1]; exact hb
  simp only [rSe] at hb'
  simp only [c148, rSe, hb', evX, Int.reduceEq, Int.reduceLT, Int.reduceLE, Nat.reduceMul, Nat.reduceMod, evW, fn_eq, evR, Nat.reduceAdd, Nat.reduceLT, Nat.reduceLeDiff, reduceIte, Nat.reduceEqDiff, reduceCtorEq, argEnv, eq_self, if_true, if_false]
theorem f147 (l : List Se) (hl : l.length < 9223372036854775807) (f : Se) (b : Nat) (H : Heap) (hb : H[b]? = some ⟨0, true, 125, 4, [rSe f]⟩) : cal (evC cprog) false 147 [eSes l, .fn 148 [.ptr b 0 4 0 0]] H = some (.bool (l.any fun g => decide (g.name = f.name)), H) :=
  containsFunc_ok (g := 168) at147 (indexFunc_ok (sz := 4) (ag := true) at168 _ _ lSe 148 [_] _ H _ l (sSes H l) hl fun g _ => f148 g f b H hb)
/-- the field that an index tells, of its type -/
def fldOf (ts : List Ty) (x : Se) : Option Fd :=
  if 0 ≤ x.type ∧ 0 ≤ x.field then (ts[x.type.toNat]?).bind fun t => t.fields[x.field.toNat]? else none
def atMost20 : Option Fd → Bool
  | some f => decide (f.bytes ≤ 20)
  | none => false
noncomputable def seOk (ts : List Ty) (l : List Se) (i : Nat) (x : Se) : Bool :=
  isName x.name && decide ((x.sparse.size : Int) ≤ 1) && !((l.take i).any fun g => decide (g.name = x.name)) && atMost20 (fldOf ts x)
noncomputable def sesOk (ts : List Ty) (l : List Se) : Bool := tell (∀ (i : Nat) (x : Se), l[i]? = some x → seOk ts l i x = true)
noncomputable def validB (b : Base) : Bool := isName b.name && decide (1 ≤ b.kind) && decide (b.kind ≤ 4) && areTys b.types && sesOk b.types b.indexes && decide ((b.indexes.length : Int) ≤ 3)
/-- the ways in which an index tells a field, or none -/
theorem fld_cases (ts : List Ty) (x : Se) : (fldOf ts x = none ∧ (x.type < 0 ∨ (0 ≤ x.type ∧ (ts.length : Int) ≤ x.type) ∨ ∃ (k : Nat) (t : Ty), x.type = (k : Int) ∧ k < ts.length ∧ ts[k]? = some t ∧ (x.field < 0 ∨ (0 ≤ x.field ∧ (t.fields.length : Int) ≤ x.field)))) ∨
    ∃ (k : Nat) (t : Ty) (m : Nat) (f : Fd), fldOf ts x = some f ∧ x.type = (k : Int) ∧ k < ts.length ∧ ts[k]? = some t ∧ x.field = (m : Int) ∧ m < t.fields.length ∧ t.fields[m]? = some f := by
  by_cases h1 : x.type < 0
  · exact .inl ⟨by unfold fldOf; rw [if_neg (by omega)], .inl h1⟩
  by_cases h2 : (ts.length : Int) ≤ x.type
  · exact .inl ⟨by unfold fldOf; split; (· rw [List.getElem?_eq_none (by omega)]; rfl); rfl, .inr (.inl ⟨by omega, h2⟩)⟩
  have hk : x.type.toNat < ts.length := by omega
  have ht : ts[x.type.toNat]? = some (ts[x.type.toNat]'hk) := List.getElem?_eq_getElem hk
  generalize ts[x.type.toNat]'hk = t at ht
  by_cases h3 : x.field < 0
  · exact .inl ⟨by unfold fldOf; rw [if_neg (by omega)], .inr (.inr ⟨x.type.toNat, t, by omega, hk, ht, .inl h3⟩)⟩
  by_cases h4 : (t.fields.length : Int) ≤ x.field
  · refine .inl ⟨?_, .inr (.inr ⟨x.type.toNat, t, by omega, hk, ht, .inr ⟨by omega, h4⟩⟩)⟩
    unfold fldOf
    rw [if_pos (by omega), ht]
    simp only [Option.bind_some]
    rw [List.getElem?_eq_none (by omega)]
  have hm : x.field.toNat < t.fields.length := by omega
  refine .inr ⟨x.type.toNat, t, x.field.toNat, t.fields[x.field.toNat]'hm, ?_, by omega, hk, ht, by omega, hm, List.getElem?_eq_getElem hm⟩
  unfold fldOf
  rw [if_pos (by omega), ht]
  simp only [Option.bind_some]
  exact List.getElem?_eq_getElem hm
theorem f115 (ts : List Ty) (l : List Se) (hl : l.length < 9223372036854775807) (hok : ∀ x ∈ l, x.Ok) (H : Heap) :
    cal (evC cprog) false 115 [eSes l, eTys ts] H = some (.bool (sesOk ts l && decide ((l.length : Int) ≤ 3)), H) := by
  rw [cal_of at115]
  have hlen := (sSes [] l).len
  have hlt' := (sTys [] ts).len
  simp only [List.length_map] at hlen hlt'
  simp only [c115, hlen, evX, Int.reduceEq, Int.reduceLT, Int.reduceLE, Nat.reduceMul, Nat.reduceMod, evW, fn_eq, evR, Nat.reduceAdd, Nat.reduceLT, Nat.reduceLeDiff, reduceIte, Nat.reduceEqDiff, reduceCtorEq, argEnv, eq_self, if_true, if_false]
  generalize hz : itLim _ _ = z
  have L := scan_rule l (seOk ts l) [0, 1, 8, 9, 10] (fun i => [(0, eSes l), (1, eTys ts), (8, eSes l), (9, .int .i64 (l.length : Int)), (10, .int .i64 (i : Int))]) H [] (evCode (evC cprog) itLim c115_l0) (fun c T => c = .exit 0 ∧ keepEnv T [0] = [(0, eSes l)]) (fun _ _ c T => c = .ret ∧ get T 4 = some (.bool false))
    (fun i x hx E G hE => by
      have hlt : i < l.length := (List.getElem?_eq_some_iff.1 hx).1
      have hi : (i : Int) < (l.length : Int) := by omega
      have hxo := hok x (List.mem_of_getElem? hx)
      obtain ⟨p, hp, hat⟩ := PtrLst.at rSe (sz := 4) (fun _ => rfl) l hx
      change iaddrK 4 (some (eSes l)) _ = _ at hp
      have hag := fun H => (hat H).agg (n := 4) rfl
      have hc := f147 (l.take i) (by rw [List.length_take]; omega) x (H.length + G.length) (H ++ (G ++ [⟨0, true, 125, 4, [rSe x]⟩])) (by simp)
      have hs := fun H => slc_take rSe (sz := 4) (fun _ => rfl) H l (i := i) (by omega)
      have hn := f113 x.name hxo.name
      change ∀ H, evSlc H 4 (eSes l) none (some i) none = some (eSes (l.take i)) at hs
      simp only [rSe] at hag hc
      rcases fld_cases ts x with ⟨hf, h | ⟨h, h'⟩ | ⟨k, t, hk, hkl, ht, h⟩⟩ | ⟨k, t, m, f, hf, hk, hkl, ht, hm, hml, hff⟩
      · simp only [c115_l0, hE, hi, hp, hag, hs, hc, hn, h, wrapS hlt hl, evX, Int.reduceEq, Int.reduceLT, Int.reduceLE, Nat.reduceMul, Nat.reduceMod, evW, fn_eq, evR, Nat.reduceAdd, Nat.reduceLT, Nat.reduceLeDiff, reduceIte, Nat.reduceEqDiff, reduceCtorEq, argEnv, eq_self, if_true, if_false]
        repeat' ((first | rw [guardK_cases] | rw [condK_bool] | rw [guardD_cases]); split <;> simp only [c115_l0, hE, hi, hp, hag, hs, hc, hn, h, wrapS hlt hl, evX, Int.reduceEq, Int.reduceLT, Int.reduceLE, Nat.reduceMul, Nat.reduceMod, evW, evR, Nat.reduceAdd, Nat.reduceLT, Nat.reduceLeDiff, reduceIte, Nat.reduceEqDiff, reduceCtorEq, argEnv, eq_self, if_true, if_false, *])
        all_goals exact Sc.ret (by simp [seOk, hf, atMost20]) ⟨rfl, rfl⟩
      · have h0 : ¬ x.type < 0 := by omega
        simp only [c115_l0, hE, hi, hp, hag, hs, hc, hn, h0, h', hlt', wrapS hlt hl, evX, Int.reduceEq, Int.reduceLT, Int.reduceLE, Nat.reduceMul, Nat.reduceMod, evW, fn_eq, evR, Nat.reduceAdd, Nat.reduceLT, Nat.reduceLeDiff, reduceIte, Nat.reduceEqDiff, reduceCtorEq, argEnv, eq_self, if_true, if_false]
        repeat' ((first | rw [guardK_cases] | rw [condK_bool] | rw [guardD_cases]); split <;> simp only [c115_l0, hE, hi, hp, hag, hs, hc, hn, h0, h', hlt', wrapS hlt hl, evX, Int.reduceEq, Int.reduceLT, Int.reduceLE, Nat.reduceMul, Nat.reduceMod, evW, evR, Nat.reduceAdd, Nat.reduceLT, Nat.reduceLeDiff, reduceIte, Nat.reduceEqDiff, reduceCtorEq, argEnv, eq_self, if_true, if_false, *])
        all_goals exact Sc.ret (by simp [seOk, hf, atMost20]) ⟨rfl, rfl⟩
      · have k0 : ¬ (k : Int) < 0 := by omega
        have k1 : ¬ (ts.length : Int) ≤ (k : Int) := by omega
        obtain ⟨q, hq, hqt⟩ := PtrLst.at rTy (sz := 8) (fun _ => rfl) ts ht
        change iaddrK 8 (some (eTys ts)) _ = _ at hq
        have hl1 := fun o s H => (hqt H).fld o s
        have hl2 := fun o => (hqt []).faddr o
        have hfl := (sFds [] t.fields).len
        simp only [List.length_map] at hfl
        simp only [rTy] at hl1
        simp only [hk] at hag hc
        rcases h with h | ⟨h, h'⟩
        · simp only [c115_l0, hE, hi, hp, hag, hs, hc, hn, k0, k1, hlt', hq, hl1, hl2, hfl, h, wrapS hlt hl, evX, Int.reduceEq, Int.reduceLT, Int.reduceLE, Nat.reduceMul, Nat.reduceMod, evW, fn_eq, evR, Nat.reduceAdd, Nat.reduceLT, Nat.reduceLeDiff, reduceIte, Nat.reduceEqDiff, reduceCtorEq, argEnv, eq_self, if_true, if_false]
          repeat' ((first | rw [guardK_cases] | rw [condK_bool] | rw [guardD_cases]); split <;> simp only [c115_l0, hE, hi, hp, hag, hs, hc, hn, k0, k1, hlt', hq, hl1, hl2, hfl, h, wrapS hlt hl, evX, Int.reduceEq, Int.reduceLT, Int.reduceLE, Nat.reduceMul, Nat.reduceMod, evW, evR, Nat.reduceAdd, Nat.reduceLT, Nat.reduceLeDiff, reduceIte, Nat.reduceEqDiff, reduceCtorEq, argEnv, eq_self, if_true, if_false, *])
          all_goals exact Sc.ret (by simp [seOk, hf, atMost20, *]) ⟨rfl, rfl⟩
        · have h0 : ¬ x.field < 0 := by omega
          simp only [c115_l0, hE, hi, hp, hag, hs, hc, hn, k0, k1, hlt', hq, hl1, hl2, hfl, h0, h', wrapS hlt hl, evX, Int.reduceEq, Int.reduceLT, Int.reduceLE, Nat.reduceMul, Nat.reduceMod, evW, fn_eq, evR, Nat.reduceAdd, Nat.reduceLT, Nat.reduceLeDiff, reduceIte, Nat.reduceEqDiff, reduceCtorEq, argEnv, eq_self, if_true, if_false]
          repeat' ((first | rw [guardK_cases] | rw [condK_bool] | rw [guardD_cases]); split <;> simp only [c115_l0, hE, hi, hp, hag, hs, hc, hn, k0, k1, hlt', hq, hl1, hl2, hfl, h0, h', wrapS hlt hl, evX, Int.reduceEq, Int.reduceLT, Int.reduceLE, Nat.reduceMul, Nat.reduceMod, evW, evR, Nat.reduceAdd, Nat.reduceLT, Nat.reduceLeDiff, reduceIte, Nat.reduceEqDiff, reduceCtorEq, argEnv, eq_self, if_true, if_false, *])
          all_goals exact Sc.ret (by simp [seOk, hf, atMost20, *]) ⟨rfl, rfl⟩
      · have k0 : ¬ (k : Int) < 0 := by omega
        have k1 : ¬ (ts.length : Int) ≤ (k : Int) := by omega
        have m0 : ¬ (m : Int) < 0 := by omega
        have m1 : ¬ (t.fields.length : Int) ≤ (m : Int) := by omega
        obtain ⟨q, hq, hqt⟩ := PtrLst.at rTy (sz := 8) (fun _ => rfl) ts ht
        change iaddrK 8 (some (eTys ts)) _ = _ at hq
        have hl1 := fun o s H => (hqt H).fld o s
        have hl2 := fun o => (hqt []).faddr o
        obtain ⟨q', hq', hqt'⟩ := PtrLst.at rFd (sz := 3) (fun _ => rfl) t.fields hff
        change iaddrK 3 (some (eFds t.fields)) _ = _ at hq'
        have hl3 := fun o s H => (hqt' H).fld o s
        have hl4 := fun o => (hqt' []).faddr o
        have hfl := (sFds [] t.fields).len
        simp only [List.length_map] at hfl
        simp only [rTy] at hl1
        simp only [rFd] at hl3
        simp only [hk, hm] at hag hc
        simp only [c115_l0, hE, hi, hp, hag, hs, hc, hn, k0, k1, m0, m1, hlt', hq, hl1, hl2, hq', hl3, hl4, hfl, wrapS hlt hl, evX, Int.reduceEq, Int.reduceLT, Int.reduceLE, Nat.reduceMul, Nat.reduceMod, evW, fn_eq, evR, Nat.reduceAdd, Nat.reduceLT, Nat.reduceLeDiff, reduceIte, Nat.reduceEqDiff, reduceCtorEq, argEnv, eq_self, if_true, if_false]
        repeat' ((first | rw [guardK_cases] | rw [condK_bool] | rw [guardD_cases]); split <;> simp only [c115_l0, hE, hi, hp, hag, hs, hc, hn, k0, k1, m0, m1, hlt', hq, hl1, hl2, hq', hl3, hl4, hfl, wrapS hlt hl, evX, Int.reduceEq, Int.reduceLT, Int.reduceLE, Nat.reduceMul, Nat.reduceMod, evW, evR, Nat.reduceAdd, Nat.reduceLT, Nat.reduceLeDiff, reduceIte, Nat.reduceEqDiff, reduceCtorEq, argEnv, eq_self, if_true, if_false, *])
        all_goals first | refine Sc.ret ?_ ⟨rfl, rfl⟩ | refine Sc.next ?_ (by rfl)
        all_goals first | (simp_all [seOk, atMost20]; done) | (simp_all [seOk, atMost20]; intros; omega) | (simp_all [seOk, atMost20]; rename_i h; intro h1; obtain ⟨y, h2, h3⟩ := h; exact absurd h3 (h1 y h2)))
    (fun E G hE => by
      simp only [c115_l0, hE, Int.lt_irrefl, evX, Int.reduceEq, Int.reduceLT, Int.reduceLE, Nat.reduceMul, Nat.reduceMod, evW, fn_eq, evR, Nat.reduceAdd, Nat.reduceLT, Nat.reduceLeDiff, reduceIte, Nat.reduceEqDiff, reduceCtorEq, argEnv, eq_self, if_true, if_false]
      exact .exit (K := []) ⟨rfl, by rfl⟩) _ [] (by rfl) (by simp) z hz
  rcases L with ⟨ha, c, T, G, rfl, _, rfl, hT⟩ | ⟨i, r, hx, ha, _, c, T, G, rfl, _, rfl, hT⟩
  · simp only [hT, hlen, evX, Int.reduceEq, Int.reduceLT, Int.reduceLE, Nat.reduceMul, Nat.reduceMod, evW, fn_eq, evR, Nat.reduceAdd, Nat.reduceLT, Nat.reduceLeDiff, reduceIte, Nat.reduceEqDiff, reduceCtorEq, argEnv, eq_self, if_true, if_false]
    all_goals (simp_all [sesOk, tell_pos]; try (intros; omega))
  · have : sesOk ts l = false := tell_neg fun h => by rw [h i r hx] at ha; cases ha
    simp only [hT, evX, Int.reduceEq, Int.reduceLT, Int.reduceLE, Nat.reduceMul, Nat.reduceMod, evW, fn_eq, evR, Nat.reduceAdd, Nat.reduceLT, Nat.reduceLeDiff, reduceIte, Nat.reduceEqDiff, reduceCtorEq, argEnv, eq_self, if_true, if_false]
    rw [this]; rfl
theorem f75 (b : Base) (hb : b.Ok) (H : Heap) : cal (evC cprog) false 75 [eBase b] H = some (.bool (validB b), H) := by
  rw [cal_of at75]
  have h1 := f113 b.name hb.name
  have h2 := f114 b.types hb.type
  have h3 := f115 b.types b.indexes hb.indexes hb.index
  simp only [c75, eBase, h1, h2, h3, evX, Int.reduceEq, Int.reduceLT, Int.reduceLE, Nat.reduceMul, Nat.reduceMod, evW, fn_eq, evR, Nat.reduceAdd, Nat.reduceLT, Nat.reduceLeDiff, reduceIte, Nat.reduceEqDiff, reduceCtorEq, argEnv, eq_self, if_true, if_false]
  repeat' ((first | rw [guardK_cases] | rw [condK_bool] | rw [guardD_cases]); split <;> simp only [c75, eBase, h1, h2, h3, evX, Int.reduceEq, Int.reduceLT, Int.reduceLE, Nat.reduceMul, Nat.reduceMod, evW, evR, Nat.reduceAdd, Nat.reduceLT, Nat.reduceLeDiff, reduceIte, Nat.reduceEqDiff, reduceCtorEq, argEnv, eq_self, if_true, if_false, *])
  all_goals (simp_all [validB]; try (intros; omega))
end Go.Proofs.YtbdpceigmnpoaaaGreatDoor.Code

/- plain: the way of parents among types, as the document asks. -/
set_option linter.unusedSimpArgs false
set_option linter.unusedVariables false
namespace Go.Proofs.YtbdpceigmnpoaaaGreatDoor.Code
open Go.Proofs.YtbdpceigmnpoaaaGreatDoor.Ev

/-- the way to a type, or nothing for -1 -/
def ancI (ts : List Ty) (t : Int) : List Int := if t < 0 then [] else anc ts t.toNat
/-- parents stand in front of their children -/
def Good (ts : List Ty) (n : Nat) : Prop := ∀ (j : Nat) (t : Ty), j < n → ts[j]? = some t → -1 ≤ t.parent ∧ t.parent < (j : Int)
theorem anc_step {ts : List Ty} {n j : Nat} {t : Ty} (h : Good ts n) (hj : j < n) (ht : ts[j]? = some t) : anc ts j = ancI ts t.parent ++ [(j : Int)] := by
  obtain ⟨h1, h2⟩ := h j t hj ht
  unfold ancI
  by_cases hp : t.parent < 0
  · rw [if_pos hp, anc_root fun t' ht' => by rw [ht] at ht'; cases ht'; exact hp]; rfl
  · rw [if_neg hp, anc_up ht (p := t.parent.toNat) (by omega) (by omega)]
theorem ancI_nat (ts : List Ty) (k : Nat) : ancI ts (k : Int) = anc ts k := by unfold ancI; rw [if_neg (by omega)]; simp
theorem ancI_neg (ts : List Ty) {t : Int} (h : t < 0) : ancI ts t = [] := if_pos h
theorem lFp {α : Type} (row : α → List AV) {sz : Nat} (hr : ∀ x, (row x).length = sz) {l : List α} {i : Nat} {x : α} (hx : l[i]? = some x) : iaddrK sz (some (.lst (l.map row))) (some (.int .i64 (i : Int))) = some (.fptr (row x)) := by
  rw [iaddr_lst, asNat_cast, atK_some, List.getElem?_map, hx, Option.map_some, rowK_some, if_pos (hr x)]
theorem aTy {l : List Ty} {i : Nat} {x : Ty} (hx : l[i]? = some x) : iaddrK 8 (some (eTys l)) (some (.int .i64 (i : Int))) = some (.fptr (rTy x)) := lFp rTy (fun _ => rfl) hx
theorem aFd {l : List Fd} {i : Nat} {x : Fd} (hx : l[i]? = some x) : iaddrK 3 (some (eFds l)) (some (.int .i64 (i : Int))) = some (.fptr (rFd x)) := lFp rFd (fun _ => rfl) hx
theorem aSe {l : List Se} {i : Nat} {x : Se} (hx : l[i]? = some x) : iaddrK 4 (some (eSes l)) (some (.int .i64 (i : Int))) = some (.fptr (rSe x)) := lFp rSe (fun _ => rfl) hx
theorem aItem {l : List Item} {i : Nat} {x : Item} (hx : l[i]? = some x) : iaddrK 2 (some (eItems l)) (some (.int .i64 (i : Int))) = some (.fptr (rItem x)) := lFp rItem (fun _ => rfl) hx
theorem aI {l : List Int} {i : Nat} {x : Int} (hx : l[i]? = some x) : iaddrK 1 (some (eIs l)) (some (.int .i64 (i : Int))) = some (.fptr (rI x)) := lFp rI (fun _ => rfl) hx
theorem f79 (b : Base) (n : Nat) (hg : Good b.types n) (hn : n ≤ b.types.length) (a : Int) (k : Nat) (hk : k < n) (H : Heap) :
    cal (evC cprog) false 79 [eBase b, .int .i64 a, .int .i64 (k : Int)] H = some (.bool (decide (a ∈ (anc b.types k).dropLast)), H) := by
  rw [cal_of at79]
  obtain ⟨t, ht⟩ : ∃ t, b.types[k]? = some t := ⟨_, List.getElem?_eq_getElem (by omega)⟩
  have hat := aTy ht
  simp only [c79, eBase, rTy, hat, evX, Int.reduceEq, Int.reduceLT, Int.reduceLE, Nat.reduceMul, Nat.reduceMod, evW, fn_eq, evR, Nat.reduceAdd, Nat.reduceLT, Nat.reduceLeDiff, reduceIte, Nat.reduceEqDiff, reduceCtorEq, argEnv, eq_self, if_true, if_false]
  rw [anc_step hg hk ht, List.dropLast_concat]
  generalize hz : itLim _ _ = z
  have L := loop_rule (σ := Int) (m := [1, 2, 3]) (env := fun t => [(1, .int .i64 a), (2, .int .i64 t), (3, .ptr H.length 0 4 0 0)]) (hp := fun _ => H ++ [⟨0, true, 25, 4, [[.str b.name, .int .i64 b.kind, eTys b.types, eSes b.indexes]]⟩])
    (P := fun t r => ∃ T, r.2 = (T, H ++ [⟨0, true, 25, 4, [[.str b.name, .int .i64 b.kind, eTys b.types, eSes b.indexes]]⟩]) ∧ ((a ∈ ancI b.types t ∧ r.1 = .ret ∧ get T 6 = some (.bool true)) ∨ (a ∉ ancI b.types t ∧ r.1 = .exit 0)))
    (mu := fun t => (t + 1).toNat) (I := fun t => -1 ≤ t ∧ t < (n : Int)) (evCode (evC cprog) itLim c79_l0) ?_ t.parent _ (by have := hg k t hk ht; omega) (by rfl) rfl z hz
  · obtain ⟨⟨c, T, H'⟩, rfl, T', h1, h⟩ := L
    cases h1
    rcases h with ⟨h, rfl, hT⟩ | ⟨h, rfl⟩
    · simp only [hT, h, evX, Int.reduceEq, Int.reduceLT, Int.reduceLE, Nat.reduceMul, Nat.reduceMod, evW, fn_eq, evR, Nat.reduceAdd, Nat.reduceLT, Nat.reduceLeDiff, reduceIte, Nat.reduceEqDiff, reduceCtorEq, argEnv, eq_self, if_true, if_false]
    · simp only [h, evX, Int.reduceEq, Int.reduceLT, Int.reduceLE, Nat.reduceMul, Nat.reduceMod, evW, fn_eq, evR, Nat.reduceAdd, Nat.reduceLT, Nat.reduceLeDiff, reduceIte, Nat.reduceEqDiff, reduceCtorEq, argEnv, eq_self, if_true, if_false]
  · intro t ⟨h1, h2⟩ E hE
    by_cases h0 : 0 ≤ t
    · obtain ⟨j, rfl⟩ : ∃ j : Nat, t = (j : Int) := ⟨t.toNat, by omega⟩
      obtain ⟨t, ht⟩ : ∃ t, b.types[j]? = some t := ⟨_, List.getElem?_eq_getElem (by omega)⟩
      have hat := aTy ht
      have hs := anc_step hg (by omega) ht
      have hgt := hg j t (by omega) ht
      by_cases ha : (j : Int) = a
      · subst ha
        simp only [c79_l0, hE, h0, evX, Int.reduceEq, Int.reduceLT, Int.reduceLE, Nat.reduceMul, Nat.reduceMod, evW, fn_eq, evR, Nat.reduceAdd, Nat.reduceLT, Nat.reduceLeDiff, reduceIte, Nat.reduceEqDiff, reduceCtorEq, argEnv, eq_self, if_true, if_false]
        exact q_ret ⟨_, rfl, .inl ⟨by rw [ancI_nat]; exact anc_self _ _, rfl, by rfl⟩⟩
      · simp only [c79_l0, hE, h0, ha, hat, rTy, evX, Int.reduceEq, Int.reduceLT, Int.reduceLE, Nat.reduceMul, Nat.reduceMod, evW, fn_eq, evR, Nat.reduceAdd, Nat.reduceLT, Nat.reduceLeDiff, reduceIte, Nat.reduceEqDiff, reduceCtorEq, argEnv, eq_self, if_true, if_false]
        refine q_next t.parent (by rfl) rfl (by omega) (by omega) fun r h => ?_
        obtain ⟨T, h3, h⟩ := h
        refine ⟨T, h3, ?_⟩
        rw [ancI_nat, hs]
        have : a ≠ (j : Int) := fun h => ha h.symm
        simpa [this] using h
    · simp only [c79_l0, hE, h0, evX, Int.reduceEq, Int.reduceLT, Int.reduceLE, Nat.reduceMul, Nat.reduceMod, evW, fn_eq, evR, Nat.reduceAdd, Nat.reduceLT, Nat.reduceLeDiff, reduceIte, Nat.reduceEqDiff, reduceCtorEq, argEnv, eq_self, if_true, if_false]
      exact q_exit ⟨_, rfl, .inr ⟨by rw [ancI_neg _ (by omega)]; simp, rfl⟩⟩
end Go.Proofs.YtbdpceigmnpoaaaGreatDoor.Code

/- plain: fields of a type, as the document asks. -/
set_option linter.unusedSimpArgs false
set_option linter.unusedVariables false
namespace Go.Proofs.YtbdpceigmnpoaaaGreatDoor.Code
open Go.Proofs.YtbdpceigmnpoaaaGreatDoor.Ev

/-- a block that stays where it is -/
def Sits (H : Heap) (n : Nat) (k : Blk) : Prop := ∀ X, (H ++ X)[n]? = some k
theorem Sits.mk {H : Heap} {n : Nat} {k : Blk} (h : H[n]? = some k) : Sits H n k := fun X => by
  rw [List.getElem?_append_left (List.getElem?_eq_some_iff.1 h).1]; exact h
theorem Sits.at {H : Heap} {n : Nat} {k : Blk} (h : Sits H n k) : H[n]? = some k := by simpa using h []
def bTy (t : Ty) : Blk := ⟨0, true, 61, 8, [rTy t]⟩
def bFd (t : Fd) : Blk := ⟨0, true, 120, 3, [rFd t]⟩
def bSe (t : Se) : Blk := ⟨0, true, 125, 4, [rSe t]⟩
def bBase (b : Base) : Blk := ⟨0, true, 25, 4, [[.str b.name, .int .i64 b.kind, eTys b.types, eSes b.indexes]]⟩
theorem l78 (t : Ty) (f : Fd) (i : Nat) (hi : i < t.fields.length) (hl : t.fields.length < 9223372036854775807) (H : Heap) (b1 b2 : Nat) (h1 : Sits H b1 (bTy t)) (h2 : Sits H b2 (bFd f)) (st : St) (G : Heap)
    (hE : keepEnv st.1 [1, 3, 4, 5] = [(1, .ptr b1 0 8 0 0), (3, .int .i64 (i : Int)), (4, .ptr b2 0 3 0 0), (5, .int .i64 0)]) (hH : st.2 = H ++ ([] ++ G)) (z : Option (CX × St)) (hz : itLim (evCode (evC cprog) itLim c78_l0) st = z) :
    ((t.fields.take i).any (fun g => decide (g.name = f.name)) = false ∧ Lv H [] (fun c T => c = .exit 2 ∧ keepEnv T [1, 3] = [(1, .ptr b1 0 8 0 0), (3, .int .i64 (i : Int))]) z) ∨
    ((t.fields.take i).any (fun g => decide (g.name = f.name)) = true ∧ Lv H [] (fun c T => c = .ret ∧ get T 2 = some (.bool false)) z) := by
  have L := all_rule (t.fields.take i) (fun g => !decide (g.name = f.name)) [1, 3, 4, 5] (fun k => [(1, .ptr b1 0 8 0 0), (3, .int .i64 (i : Int)), (4, .ptr b2 0 3 0 0), (5, .int .i64 (k : Int))]) H [] (evCode (evC cprog) itLim c78_l0)
    (fun c T => c = .exit 2 ∧ keepEnv T [1, 3] = [(1, .ptr b1 0 8 0 0), (3, .int .i64 (i : Int))]) (fun c T => c = .ret ∧ get T 2 = some (.bool false))
    (fun k g hg E G hE => by
      have hk : k < i := by have := (List.getElem?_eq_some_iff.1 hg).1; rw [List.length_take] at this; omega
      rw [List.getElem?_take, if_pos hk] at hg
      have hki : (k : Int) < (i : Int) := by omega
      have ha := aFd hg
      simp only [bTy, bFd, rTy, rFd, Sits] at h1 h2
      simp only [c78_l0, hE, hki, ha, h1, h2, rFd, wrapS hk (by omega), evX, Int.reduceEq, Int.reduceLT, Int.reduceLE, Nat.reduceMul, Nat.reduceMod, evW, fn_eq, evR, Nat.reduceAdd, Nat.reduceLT, Nat.reduceLeDiff, reduceIte, Nat.reduceEqDiff, reduceCtorEq, argEnv, eq_self, if_true, if_false]
      repeat' ((first | rw [guardK_cases] | rw [condK_bool] | rw [guardD_cases]); split <;> simp only [c78_l0, hE, hki, ha, h1, h2, rFd, wrapS hk (by omega), evX, Int.reduceEq, Int.reduceLT, Int.reduceLE, Nat.reduceMul, Nat.reduceMod, evW, evR, Nat.reduceAdd, Nat.reduceLT, Nat.reduceLeDiff, reduceIte, Nat.reduceEqDiff, reduceCtorEq, argEnv, eq_self, if_true, if_false, *])
      all_goals first | exact Sc.next (by first | (simp_all [eq_comm]; done) | (simp_all [eq_comm]; intros; omega)) (by rfl) | exact Sc.ret (by first | (simp_all [eq_comm]; done) | (simp_all [eq_comm]; intros; omega)) ⟨rfl, by first | rfl | exact ⟨rfl, rfl, rfl⟩⟩ | exact Sc.exit (by first | (simp_all [eq_comm]; done) | (simp_all [eq_comm]; intros; omega)) ⟨rfl, rfl⟩)
    (fun E G hE => by
      rw [List.length_take, Nat.min_eq_left (by omega)] at hE
      simp only [c78_l0, hE, Int.lt_irrefl, evX, Int.reduceEq, Int.reduceLT, Int.reduceLE, Nat.reduceMul, Nat.reduceMod, evW, fn_eq, evR, Nat.reduceAdd, Nat.reduceLT, Nat.reduceLeDiff, reduceIte, Nat.reduceEqDiff, reduceCtorEq, argEnv, eq_self, if_true, if_false]
      exact .exit (K := []) ⟨rfl, by rfl⟩) st G hE hH z hz
  rcases L with ⟨h, L⟩ | ⟨h, L⟩
  · refine .inl ⟨?_, L⟩
    rw [List.any_eq_false]; intro x hx
    have := List.all_eq_true.1 h x hx
    simpa using this
  · refine .inr ⟨?_, L⟩
    obtain ⟨x, hx, h⟩ := List.all_eq_false.1 h
    rw [List.any_eq_true]; exact ⟨x, hx, by simpa using h⟩
theorem m78 (t : Ty) (ht : t.Ok) (h0 : sizeOk t = true) (H : Heap) (b1 : Nat) (hb : Sits H b1 (bTy t)) (st : St) (G : Heap) (hE : keepEnv st.1 [1, 3] = [(1, .ptr b1 0 8 0 0), (3, .int .i64 0)]) (hH : st.2 = H ++ ([] ++ G)) (z : Option (CX × St)) (hz : itLim (evCode (evC cprog) itLim c78_l1) st = z) :
    (fldsOk t.size t.fields = true ∧ Lv H [] (fun c T => c = .exit 0 ∧ keepEnv T [1] = [(1, .ptr b1 0 8 0 0)]) z) ∨ (fldsOk t.size t.fields = false ∧ Lv H [] (fun c T => c = .ret ∧ get T 2 = some (.bool false)) z) := by
  have hsz := h0
  simp only [sizeOk, Bool.and_eq_true, decide_eq_true_eq] at hsz
  have hflen := (sFds [] t.fields).len
  simp only [List.length_map] at hflen
  have hs := hb
  simp only [bTy, rTy, Sits] at hs
  have L := scan_rule t.fields (fldOk t.size t.fields) [1, 3] (fun i => [(1, .ptr b1 0 8 0 0), (3, .int .i64 (i : Int))]) H [] (evCode (evC cprog) itLim c78_l1) (fun c T => c = .exit 0 ∧ keepEnv T [1] = [(1, .ptr b1 0 8 0 0)]) (fun _ _ c T => c = .ret ∧ get T 2 = some (.bool false))
    (fun i f hx E G hE => by
      have hlt : i < t.fields.length := (List.getElem?_eq_some_iff.1 hx).1
      have hi : (i : Int) < (t.fields.length : Int) := by omega
      have hok := ht.field f (List.mem_of_getElem? hx)
      have ha := aFd hx
      have hn := f77 f.name hok.name
      by_cases hneg : f.at' < 0
      · simp only [c78_l1, hE, hi, ha, hs, hflen, hn, hneg, rFd, evX, Int.reduceEq, Int.reduceLT, Int.reduceLE, Nat.reduceMul, Nat.reduceMod, evW, fn_eq, evR, Nat.reduceAdd, Nat.reduceLT, Nat.reduceLeDiff, reduceIte, Nat.reduceEqDiff, reduceCtorEq, argEnv, eq_self, if_true, if_false]
        repeat' ((first | rw [guardK_cases] | rw [condK_bool] | rw [guardD_cases]); split <;> simp only [c78_l1, hE, hi, ha, hs, hflen, hn, hneg, rFd, evX, Int.reduceEq, Int.reduceLT, Int.reduceLE, Nat.reduceMul, Nat.reduceMod, evW, evR, Nat.reduceAdd, Nat.reduceLT, Nat.reduceLeDiff, reduceIte, Nat.reduceEqDiff, reduceCtorEq, argEnv, eq_self, if_true, if_false, *])
        all_goals first | exact Sc.next (by first | (simp_all [fldOk]; done) | (simp_all [fldOk]; intros; omega)) (by rfl) | exact Sc.ret (by first | (simp_all [fldOk]; done) | (simp_all [fldOk]; intros; omega)) ⟨rfl, by first | rfl | exact ⟨rfl, rfl, rfl⟩⟩ | exact Sc.exit (by first | (simp_all [fldOk]; done) | (simp_all [fldOk]; intros; omega)) ⟨rfl, rfl⟩
      by_cases hbig : t.size < f.at'
      · simp only [c78_l1, hE, hi, ha, hs, hflen, hn, hneg, hbig, rFd, evX, Int.reduceEq, Int.reduceLT, Int.reduceLE, Nat.reduceMul, Nat.reduceMod, evW, fn_eq, evR, Nat.reduceAdd, Nat.reduceLT, Nat.reduceLeDiff, reduceIte, Nat.reduceEqDiff, reduceCtorEq, argEnv, eq_self, if_true, if_false]
        repeat' ((first | rw [guardK_cases] | rw [condK_bool] | rw [guardD_cases]); split <;> simp only [c78_l1, hE, hi, ha, hs, hflen, hn, hneg, hbig, rFd, evX, Int.reduceEq, Int.reduceLT, Int.reduceLE, Nat.reduceMul, Nat.reduceMod, evW, evR, Nat.reduceAdd, Nat.reduceLT, Nat.reduceLeDiff, reduceIte, Nat.reduceEqDiff, reduceCtorEq, argEnv, eq_self, if_true, if_false, *])
        all_goals first | exact Sc.next (by first | (simp_all [fldOk]; done) | (simp_all [fldOk]; intros; omega)) (by rfl) | exact Sc.ret (by first | (simp_all [fldOk]; done) | (simp_all [fldOk]; intros; omega)) ⟨rfl, by first | rfl | exact ⟨rfl, rfl, rfl⟩⟩ | exact Sc.exit (by first | (simp_all [fldOk]; done) | (simp_all [fldOk]; intros; omega)) ⟨rfl, rfl⟩
      have hw := wrapD (a := t.size) (b := f.at') (by omega) (by omega) (by omega) (by omega)
      cases n1 : isName f.name with
      | false =>
        simp only [c78_l1, hE, hi, ha, hs, hflen, hn, n1, rFd, evX, Int.reduceEq, Int.reduceLT, Int.reduceLE, Nat.reduceMul, Nat.reduceMod, evW, fn_eq, evR, Nat.reduceAdd, Nat.reduceLT, Nat.reduceLeDiff, reduceIte, Nat.reduceEqDiff, reduceCtorEq, argEnv, eq_self, if_true, if_false]
        exact Sc.ret (by simp [fldOk, n1]) ⟨rfl, rfl⟩
      | true =>
        by_cases m2 : f.bytes < 1
        · simp only [c78_l1, hE, hi, ha, hs, hflen, hn, hneg, hbig, n1, m2, rFd, evX, Int.reduceEq, Int.reduceLT, Int.reduceLE, Nat.reduceMul, Nat.reduceMod, evW, fn_eq, evR, Nat.reduceAdd, Nat.reduceLT, Nat.reduceLeDiff, reduceIte, Nat.reduceEqDiff, reduceCtorEq, argEnv, eq_self, if_true, if_false]
          exact Sc.ret (by simp [fldOk]; intros; omega) ⟨rfl, rfl⟩
        by_cases m3 : t.size - f.at' < f.bytes
        · simp only [c78_l1, hE, hi, ha, hs, hflen, hn, hneg, hbig, hw, n1, m2, m3, rFd, evX, Int.reduceEq, Int.reduceLT, Int.reduceLE, Nat.reduceMul, Nat.reduceMod, evW, fn_eq, evR, Nat.reduceAdd, Nat.reduceLT, Nat.reduceLeDiff, reduceIte, Nat.reduceEqDiff, reduceCtorEq, argEnv, eq_self, if_true, if_false]
          exact Sc.ret (by simp [fldOk]; intros; omega) ⟨rfl, rfl⟩
        simp only [c78_l1, hE, hi, ha, hs, hflen, hn, hneg, hbig, hw, n1, m2, m3, rFd, evX, Int.reduceEq, Int.reduceLT, Int.reduceLE, Nat.reduceMul, Nat.reduceMod, evW, fn_eq, evR, Nat.reduceAdd, Nat.reduceLT, Nat.reduceLeDiff, reduceIte, Nat.reduceEqDiff, reduceCtorEq, argEnv, eq_self, if_true, if_false]
        generalize hz : itLim _ _ = z
        rcases l78 t f i hlt ht.fields (H ++ (G ++ [bFd f])) b1 (H.length + G.length) (fun X => by rw [List.append_assoc]; exact hb _) (.mk (by simp)) _ [] (by rfl) (by simp [bFd, rFd]) z hz with ⟨h, c, T, G', rfl, _, rfl, hT⟩ | ⟨h, c, T, G', rfl, _, rfl, hT⟩
        · simp only [hT, wrapS hlt ht.fields, evX, Int.reduceEq, Int.reduceLT, Int.reduceLE, Nat.reduceMul, Nat.reduceMod, evW, fn_eq, evR, Nat.reduceAdd, Nat.reduceLT, Nat.reduceLeDiff, reduceIte, Nat.reduceEqDiff, reduceCtorEq, argEnv, eq_self, if_true, if_false]
          refine Sc.next ?_ (by rfl)
          simp [fldOk, h, n1]; omega
        · simp only [hT, evX, Int.reduceEq, Int.reduceLT, Int.reduceLE, Nat.reduceMul, Nat.reduceMod, evW, fn_eq, evR, Nat.reduceAdd, Nat.reduceLT, Nat.reduceLeDiff, reduceIte, Nat.reduceEqDiff, reduceCtorEq, argEnv, eq_self, if_true, if_false]
          exact Sc.ret (by simp [fldOk, h]) ⟨rfl, hT⟩)
    (fun E G hE => by
      simp only [c78_l1, hE, hs, hflen, Int.lt_irrefl, evX, Int.reduceEq, Int.reduceLT, Int.reduceLE, Nat.reduceMul, Nat.reduceMod, evW, fn_eq, evR, Nat.reduceAdd, Nat.reduceLT, Nat.reduceLeDiff, reduceIte, Nat.reduceEqDiff, reduceCtorEq, argEnv, eq_self, if_true, if_false]
      exact .exit (K := []) ⟨rfl, by rfl⟩) st G hE hH z hz
  rcases L with ⟨h, L⟩ | ⟨i, f, hx, h, _, L⟩
  · exact .inl ⟨tell_pos h, L⟩
  · exact .inr ⟨tell_neg fun h' => by rw [h' i f hx] at h; (cases h), L⟩
theorem f78 (t : Ty) (ht : t.Ok) (h0 : sizeOk t = true) (H : Heap) : cal (evC cprog) false 78 [.agg (rTy t)] H = some (.bool (fieldsOk t && keyOk t), H) := by
  rw [cal_of at78]
  have hsz := h0
  simp only [sizeOk, Bool.and_eq_true, decide_eq_true_eq] at hsz
  have hflen := (sFds [] t.fields).len
  simp only [List.length_map] at hflen
  simp only [c78, rTy, evX, Int.reduceEq, Int.reduceLT, Int.reduceLE, Nat.reduceMul, Nat.reduceMod, evW, fn_eq, evR, Nat.reduceAdd, Nat.reduceLT, Nat.reduceLeDiff, reduceIte, Nat.reduceEqDiff, reduceCtorEq, argEnv, eq_self, if_true, if_false]
  generalize hz : itLim _ _ = z
  rcases m78 t ht h0 (H ++ [bTy t]) H.length (.mk (by simp)) _ [] (by rfl) (by simp [bTy, rTy]) z hz with ⟨h, c, T, G', rfl, _, rfl, hT⟩ | ⟨h, c, T, G', rfl, _, rfl, hT⟩
  · have hs : ∀ X, (H ++ ([bTy t] ++ X))[H.length]? = some (bTy t) := fun X => by simp
    simp only [bTy, rTy] at hs
    rcases key_cases t with hk | hk | hk | ⟨k, f, hk, hf⟩
    · have hkk := key_none hk
      simp only [hT, hs, hk, hflen, bTy, rTy, evX, Int.reduceEq, Int.reduceLT, Int.reduceLE, Nat.reduceMul, Nat.reduceMod, evW, fn_eq, evR, Nat.reduceAdd, Nat.reduceLT, Nat.reduceLeDiff, reduceIte, Nat.reduceEqDiff, reduceCtorEq, argEnv, eq_self, if_true, if_false]
      repeat' ((first | rw [guardK_cases] | rw [condK_bool] | rw [guardD_cases]); split <;> simp only [hT, hs, hk, hflen, bTy, rTy, evX, Int.reduceEq, Int.reduceLT, Int.reduceLE, Nat.reduceMul, Nat.reduceMod, evW, evR, Nat.reduceAdd, Nat.reduceLT, Nat.reduceLeDiff, reduceIte, Nat.reduceEqDiff, reduceCtorEq, argEnv, eq_self, if_true, if_false, *])
      all_goals simp_all [fieldsOk]
      all_goals omega
    · have hkk := key_neg hk
      simp only [hT, hs, hk, hflen, bTy, rTy, evX, Int.reduceEq, Int.reduceLT, Int.reduceLE, Nat.reduceMul, Nat.reduceMod, evW, fn_eq, evR, Nat.reduceAdd, Nat.reduceLT, Nat.reduceLeDiff, reduceIte, Nat.reduceEqDiff, reduceCtorEq, argEnv, eq_self, if_true, if_false]
      all_goals simp_all [fieldsOk]
    · have hkk := key_far hk
      have k2 : ¬ t.key < -1 := by omega
      simp only [hT, hs, hk, k2, hflen, bTy, rTy, evX, Int.reduceEq, Int.reduceLT, Int.reduceLE, Nat.reduceMul, Nat.reduceMod, evW, fn_eq, evR, Nat.reduceAdd, Nat.reduceLT, Nat.reduceLeDiff, reduceIte, Nat.reduceEqDiff, reduceCtorEq, argEnv, eq_self, if_true, if_false]
      all_goals simp_all [fieldsOk]
    · have hkk := key_at hk hf
      have hkl : k < t.fields.length := (List.getElem?_eq_some_iff.1 hf).1
      have k2 : ¬ (k : Int) < -1 := by omega
      have k3 : ¬ (t.fields.length : Int) ≤ (k : Int) := by omega
      have k4 : ¬ (k : Int) < 0 := by omega
      have ha := aFd hf
      have hfk : fldOk t.size t.fields k f = true := tell_true.1 h k f hf
      simp only [fldOk, Bool.and_eq_true, decide_eq_true_eq] at hfk
      have hw := wrapQ (a := f.at') (b := f.bytes) (by omega) (by omega) (by omega) (by omega)
      simp only [hT, hs, hk, k2, k3, k4, ha, hw, hflen, rFd, bTy, rTy, evX, Int.reduceEq, Int.reduceLT, Int.reduceLE, Nat.reduceMul, Nat.reduceMod, evW, fn_eq, evR, Nat.reduceAdd, Nat.reduceLT, Nat.reduceLeDiff, reduceIte, Nat.reduceEqDiff, reduceCtorEq, argEnv, eq_self, if_true, if_false]
      repeat' ((first | rw [guardK_cases] | rw [condK_bool] | rw [guardD_cases]); split <;> simp only [hT, hs, hk, k2, k3, k4, ha, hw, hflen, rFd, bTy, rTy, evX, Int.reduceEq, Int.reduceLT, Int.reduceLE, Nat.reduceMul, Nat.reduceMod, evW, evR, Nat.reduceAdd, Nat.reduceLT, Nat.reduceLeDiff, reduceIte, Nat.reduceEqDiff, reduceCtorEq, argEnv, eq_self, if_true, if_false, *])
      all_goals simp_all [fieldsOk]
      all_goals omega
  · simp only [hT, evX, Int.reduceEq, Int.reduceLT, Int.reduceLE, Nat.reduceMul, Nat.reduceMod, evW, fn_eq, evR, Nat.reduceAdd, Nat.reduceLT, Nat.reduceLeDiff, reduceIte, Nat.reduceEqDiff, reduceCtorEq, argEnv, eq_self, if_true, if_false]
    simp [fieldsOk, h]
end Go.Proofs.YtbdpceigmnpoaaaGreatDoor.Code

/- plain: the way to a type, as the document asks. -/
set_option linter.unusedSimpArgs false
set_option linter.unusedVariables false
namespace Go.Proofs.YtbdpceigmnpoaaaGreatDoor.Code
open Go.Proofs.YtbdpceigmnpoaaaGreatDoor.Ev

theorem out_src {n sz ty : Nat} {X : Heap} {rv : AV} {rows : List (List AV)} (h : Out n sz ty X rv rows) (H0 : Heap) (hn : n = H0.length) : srcRows (H0 ++ X) rv = some rows := by
  subst hn
  rcases h with ⟨rfl, rfl | rfl⟩ | ⟨h1, j, v, rfl, h3⟩
  · rfl
  · rfl
  · cases rows with
    | nil => exact absurd rfl h1
    | cons r rs => simp [srcRows, rowsOf, curBlk, at_app, h3]
theorem fz_rI (l : List Int) : ∀ r ∈ l.map rI, ∀ a ∈ r, noRef0 a = true ∧ ∀ m H, fz H (m + 1) a = some (a, []) := by
  intro r hr a ha
  obtain ⟨n, _, rfl⟩ := List.mem_map.1 hr
  obtain rfl : a = .int .i64 n := by simpa [rI] using ha
  exact ⟨rfl, fun _ _ => rfl⟩
theorem fz_rItem (l : List Item) : ∀ r ∈ l.map rItem, ∀ a ∈ r, noRef0 a = true ∧ ∀ m H, fz H (m + 1) a = some (a, []) := by
  intro r hr a ha
  obtain ⟨n, _, rfl⟩ := List.mem_map.1 hr
  simp only [rItem, List.mem_cons, List.not_mem_nil, or_false] at ha
  rcases ha with rfl | rfl <;> exact ⟨rfl, fun _ _ => rfl⟩
/-- a function's result is what has grown: frozen -/
theorem frz_out {n sz ty : Nat} {X : Heap} {rv : AV} {rows : List (List AV)} (h : Out n sz ty X rv rows) (H K : Heap) (hn : n = (H ++ K).length) (hr : ∀ r ∈ rows, ∀ a ∈ r, noRef0 a = true ∧ ∀ m H, fz H (m + 1) a = some (a, [])) :
    calK true H (some (rv, H ++ (K ++ X))) = some (.lst rows, H) := by
  obtain ⟨ids, h1, h2⟩ := fz_out h (H ++ K) hn hr 6
  refine calK_frz (ids := ids) ?_ rfl (by simp) (fun b hb => ?_)
  · have : fzRes (H ++ (K ++ X)) rv = fz (H ++ (K ++ X)) fzDepth rv := by
      rcases h with ⟨rfl, rfl | rfl⟩ | ⟨_, j, v, rfl, _⟩ <;> rfl
    rw [this, ← List.append_assoc]; exact h1
  · have := h2 b hb
    rw [hn, List.length_append] at this; omega
theorem f80 (b : Base) (n : Nat) (hg : Good b.types n) (hn : n ≤ b.types.length) (hn8 : n ≤ 1000) (k : Nat) (hk : k < n) (H : Heap) :
    cal (evC cprog) true 80 [eBase b, .int .i64 (k : Int)] H = some (eIs (anc b.types k), H) := by
  rw [cal_of at80]
  simp only [c80, eBase, evX, Int.reduceEq, Int.reduceLT, Int.reduceLE, Nat.reduceMul, Nat.reduceMod, evW, fn_eq, evR, Nat.reduceAdd, Nat.reduceLT, Nat.reduceLeDiff, reduceIte, Nat.reduceEqDiff, reduceCtorEq, argEnv, eq_self, if_true, if_false]
  generalize hz : itLim _ _ = z
  have key : ∀ H' : Heap, H'.length = H.length + 1 → Sits H' H.length (bBase b) → ∀ st : St, keepEnv st.1 [1, 2, 5] = [(1, .int .i64 (k : Int)), (2, .ptr H.length 0 4 0 0), (5, .nils)] → st.2 = H' ++ [] → ∀ z, itLim (evCode (evC cprog) itLim c80_l0) st = z →
      ∃ T X rv, z = some (.exit 0, T, H' ++ X) ∧ keepEnv T [5] = [(5, rv)] ∧ Out H'.length 1 3 X rv ((anc b.types k).map rI) := by
    intro H' hl hs st h1 h2 z hz
    simp only [bBase, Sits] at hs
    have L := loop_rule (σ := Int × List Int × Heap × AV) (m := [1, 2, 5]) (env := fun s => [(1, .int .i64 s.1), (2, .ptr H.length 0 4 0 0), (5, s.2.2.2)]) (hp := fun s => H' ++ s.2.2.1)
      (P := fun s r => ∃ T X rv, r = (.exit 0, T, H' ++ X) ∧ keepEnv T [5] = [(5, rv)] ∧ Out H'.length 1 3 X rv ((ancI b.types s.1 ++ s.2.1).map rI))
      (mu := fun s => (s.1 + 1).toNat) (I := fun s => -1 ≤ s.1 ∧ s.1 < (n : Int) ∧ s.2.1.length + s.1 + 1 ≤ 1000 ∧ Out H'.length 1 3 s.2.2.1 s.2.2.2 (s.2.1.map rI)) (evCode (evC cprog) itLim c80_l0) ?_ ((k : Int), [], [], .nils) st ⟨by simp only; omega, by simp only; omega, by simp only [List.length_nil]; omega, .nils ..⟩ h1 h2 z hz
    · obtain ⟨_, rfl, T, X, rv, rfl, hT, hO⟩ := L
      exact ⟨T, X, rv, rfl, hT, by simpa [ancI_nat] using hO⟩
    · intro ⟨t, rest, X, rv⟩ ⟨i1, i2, i3, hO⟩ E hE
      simp only at i1 i2 i3 hO hE ⊢
      by_cases h0 : 0 ≤ t
      · obtain ⟨j, rfl⟩ : ∃ j : Nat, t = (j : Int) := ⟨t.toNat, by omega⟩
        obtain ⟨t, ht⟩ : ∃ t, b.types[j]? = some t := ⟨_, List.getElem?_eq_getElem (by omega)⟩
        have ha := aTy ht
        have hgt := hg j t (by omega) ht
        have hst := anc_step hg (by omega) ht
        have hO1 := hO.more [⟨0, true, 3, 1, [[.int .i64 (j : Int)]]⟩]
        have hO2 : Out H'.length 1 3 (X ++ [⟨0, true, 3, 1, [[.int .i64 (j : Int)]]⟩]) (.ref (H'.length + X.length) 0 1 0 1) [rI (j : Int)] := .inr ⟨by simp, X.length, 0, rfl, by simp [rI]⟩
        have hsrc := out_src hO1 H' rfl
        have hap : ∃ rv' X', appK 3 1 8 false (H' ++ (X ++ [⟨0, true, 3, 1, [[.int .i64 (j : Int)]]⟩])) (some (.ref (H'.length + X.length) 0 1 0 1)) (some rv) = some (rv', H' ++ X') ∧ Out H'.length 1 3 X' rv' (((j : Int) :: rest).map rI) := by
          rw [out_app hO2 8 H' rfl, hsrc]
          cases rest with
          | nil => exact ⟨_, _, rfl, hO2⟩
          | cons r rs =>
            rw [List.map_cons, apO_cons, if_pos (by simp [rI, reach] at *; omega)]
            exact ⟨_, _, rfl, hO2.step (by simp)⟩
        obtain ⟨rv', X', ha1, ha2⟩ := hap
        simp only [c80_l0, hE, h0, ha, hs, rTy, ha1, out_tup ha2, evX, Int.reduceEq, Int.reduceLT, Int.reduceLE, Nat.reduceMul, Nat.reduceMod, evW, fn_eq, evR, Nat.reduceAdd, Nat.reduceLT, Nat.reduceLeDiff, reduceIte, Nat.reduceEqDiff, reduceCtorEq, argEnv, eq_self, if_true, if_false]
        refine q_next (t.parent, (j : Int) :: rest, X', rv') (by rfl) rfl ⟨by omega, by omega, by simp; omega, ha2⟩ (by simp only; omega) fun r h => ?_
        obtain ⟨T, X, rv, h1, h2, h3⟩ := h
        refine ⟨T, X, rv, h1, h2, ?_⟩
        rw [ancI_nat, hst]
        simpa using h3
      · simp only [c80_l0, hE, h0, evX, Int.reduceEq, Int.reduceLT, Int.reduceLE, Nat.reduceMul, Nat.reduceMod, evW, fn_eq, evR, Nat.reduceAdd, Nat.reduceLT, Nat.reduceLeDiff, reduceIte, Nat.reduceEqDiff, reduceCtorEq, argEnv, eq_self, if_true, if_false]
        exact q_exit ⟨_, _, _, rfl, by rfl, by rw [ancI_neg _ (by omega)]; exact hO⟩
  obtain ⟨T, X, rv, rfl, hT, hO⟩ := key (H ++ [bBase b]) (by simp) (.mk (by simp)) _ (by rfl) (by simp [bBase]) z hz
  simp only [hT, out_tup hO, evX, Int.reduceEq, Int.reduceLT, Int.reduceLE, Nat.reduceMul, Nat.reduceMod, evW, fn_eq, evR, Nat.reduceAdd, Nat.reduceLT, Nat.reduceLeDiff, reduceIte, Nat.reduceEqDiff, reduceCtorEq, argEnv, eq_self, if_true, if_false]
  exact frz_out hO H [bBase b] rfl (fz_rI _)
end Go.Proofs.YtbdpceigmnpoaaaGreatDoor.Code

/- plain: which bases are valid, as the document asks. -/
set_option linter.unusedSimpArgs false
set_option linter.unusedVariables false
namespace Go.Proofs.YtbdpceigmnpoaaaGreatDoor.Code
open Go.Proofs.YtbdpceigmnpoaaaGreatDoor.Ev

theorem good_of {ts : List Ty} {n : Nat} (h : ∀ j t, j < n → ts[j]? = some t → tyAt ts j t = true) : Good ts n := fun j t hj ht => by
  by_cases h0 : j = 0
  · subst h0; have := parent_root (h 0 t hj ht); omega
  · obtain ⟨p, h1, h2, _⟩ := parent_of (h j t hj ht) h0; omega
theorem last_anc (ts : List Ty) (k : Nat) : (anc ts k).dropLast ++ [(k : Int)] = anc ts k := by
  rw [anc]
  split
  · split <;> simp
  · simp
theorem mem_anc (ts : List Ty) (k : Nat) (a : Int) : a ∈ anc ts k ↔ a ∈ (anc ts k).dropLast ∨ a = (k : Int) := by
  conv => lhs; rw [← last_anc]
  simp
theorem l43a (b : Base) (t : Ty) (i : Nat) (hi : i < b.types.length) (hl : b.types.length < 9223372036854775807) (H : Heap) (b1 b2 : Nat) (h1 : Sits H b1 (bBase b)) (h2 : Sits H b2 (bTy t)) (st : St) (G : Heap)
    (hE : keepEnv st.1 [1, 3, 4, 5] = [(1, .ptr b1 0 4 0 0), (3, .int .i64 (i : Int)), (4, .ptr b2 0 8 0 0), (5, .int .i64 0)]) (hH : st.2 = H ++ ([] ++ G)) (z : Option (CX × St)) (hz : itLim (evCode (evC cprog) itLim c43_l0) st = z) :
    ((b.types.take i).any (fun g => decide (g.name = t.name)) = false ∧ Lv H [] (fun c T => c = .exit 2 ∧ keepEnv T [1, 3, 4] = [(1, .ptr b1 0 4 0 0), (3, .int .i64 (i : Int)), (4, .ptr b2 0 8 0 0)]) z) ∨
    ((b.types.take i).any (fun g => decide (g.name = t.name)) = true ∧ Lv H [] (fun c T => c = .ret ∧ get T 2 = some (.bool false)) z) := by
  have L := all_rule (b.types.take i) (fun g => !decide (g.name = t.name)) [1, 3, 4, 5] (fun k => [(1, .ptr b1 0 4 0 0), (3, .int .i64 (i : Int)), (4, .ptr b2 0 8 0 0), (5, .int .i64 (k : Int))]) H [] (evCode (evC cprog) itLim c43_l0)
    (fun c T => c = .exit 2 ∧ keepEnv T [1, 3, 4] = [(1, .ptr b1 0 4 0 0), (3, .int .i64 (i : Int)), (4, .ptr b2 0 8 0 0)]) (fun c T => c = .ret ∧ get T 2 = some (.bool false))
    (fun k g hg E G hE => by
      have hk : k < i := by have := (List.getElem?_eq_some_iff.1 hg).1; rw [List.length_take] at this; omega
      rw [List.getElem?_take, if_pos hk] at hg
      have hki : (k : Int) < (i : Int) := by omega
      have ha := aTy hg
      simp only [bTy, bBase, rTy, Sits] at h1 h2
      simp only [c43_l0, hE, hki, ha, h1, h2, rTy, wrapS hk (by omega), evX, Int.reduceEq, Int.reduceLT, Int.reduceLE, Nat.reduceMul, Nat.reduceMod, evW, fn_eq, evR, Nat.reduceAdd, Nat.reduceLT, Nat.reduceLeDiff, reduceIte, Nat.reduceEqDiff, reduceCtorEq, argEnv, eq_self, if_true, if_false]
      repeat' ((first | rw [guardK_cases] | rw [condK_bool] | rw [guardD_cases]); split <;> simp only [c43_l0, hE, hki, ha, h1, h2, rTy, wrapS hk (by omega), evX, Int.reduceEq, Int.reduceLT, Int.reduceLE, Nat.reduceMul, Nat.reduceMod, evW, evR, Nat.reduceAdd, Nat.reduceLT, Nat.reduceLeDiff, reduceIte, Nat.reduceEqDiff, reduceCtorEq, argEnv, eq_self, if_true, if_false, *])
      all_goals first | exact Sc.next (by first | (simp_all [eq_comm]; done) | (simp_all [eq_comm]; intros; omega)) (by rfl) | exact Sc.ret (by first | (simp_all [eq_comm]; done) | (simp_all [eq_comm]; intros; omega)) ⟨rfl, by first | rfl | exact ⟨rfl, rfl, rfl⟩⟩ | exact Sc.exit (by first | (simp_all [eq_comm]; done) | (simp_all [eq_comm]; intros; omega)) ⟨rfl, rfl⟩)
    (fun E G hE => by
      rw [List.length_take, Nat.min_eq_left (by omega)] at hE
      simp only [c43_l0, hE, Int.lt_irrefl, evX, Int.reduceEq, Int.reduceLT, Int.reduceLE, Nat.reduceMul, Nat.reduceMod, evW, fn_eq, evR, Nat.reduceAdd, Nat.reduceLT, Nat.reduceLeDiff, reduceIte, Nat.reduceEqDiff, reduceCtorEq, argEnv, eq_self, if_true, if_false]
      exact .exit (K := []) ⟨rfl, by rfl⟩) st G hE hH z hz
  rcases L with ⟨h, L⟩ | ⟨h, L⟩
  · refine .inl ⟨?_, L⟩
    rw [List.any_eq_false]; intro x hx
    have := List.all_eq_true.1 h x hx
    simpa using this
  · refine .inr ⟨?_, L⟩
    obtain ⟨x, hx, h⟩ := List.all_eq_false.1 h
    rw [List.any_eq_true]; exact ⟨x, hx, by simpa using h⟩
theorem l43b (b : Base) (t : Se) (i : Nat) (hi : i < b.indexes.length) (hl : b.indexes.length < 9223372036854775807) (H : Heap) (b1 b2 : Nat) (h1 : Sits H b1 (bBase b)) (h2 : Sits H b2 (bSe t)) (st : St) (G : Heap)
    (hE : keepEnv st.1 [1, 6, 7, 8] = [(1, .ptr b1 0 4 0 0), (6, .int .i64 (i : Int)), (7, .ptr b2 0 4 0 0), (8, .int .i64 0)]) (hH : st.2 = H ++ ([] ++ G)) (z : Option (CX × St)) (hz : itLim (evCode (evC cprog) itLim c43_l2) st = z) :
    ((b.indexes.take i).any (fun g => decide (g.name = t.name)) = false ∧ Lv H [] (fun c T => c = .exit 6 ∧ keepEnv T [1, 6] = [(1, .ptr b1 0 4 0 0), (6, .int .i64 (i : Int))]) z) ∨
    ((b.indexes.take i).any (fun g => decide (g.name = t.name)) = true ∧ Lv H [] (fun c T => c = .ret ∧ get T 2 = some (.bool false)) z) := by
  have L := all_rule (b.indexes.take i) (fun g => !decide (g.name = t.name)) [1, 6, 7, 8] (fun k => [(1, .ptr b1 0 4 0 0), (6, .int .i64 (i : Int)), (7, .ptr b2 0 4 0 0), (8, .int .i64 (k : Int))]) H [] (evCode (evC cprog) itLim c43_l2)
    (fun c T => c = .exit 6 ∧ keepEnv T [1, 6] = [(1, .ptr b1 0 4 0 0), (6, .int .i64 (i : Int))]) (fun c T => c = .ret ∧ get T 2 = some (.bool false))
    (fun k g hg E G hE => by
      have hk : k < i := by have := (List.getElem?_eq_some_iff.1 hg).1; rw [List.length_take] at this; omega
      rw [List.getElem?_take, if_pos hk] at hg
      have hki : (k : Int) < (i : Int) := by omega
      have ha := aSe hg
      simp only [bSe, bBase, rSe, Sits] at h1 h2
      simp only [c43_l2, hE, hki, ha, h1, h2, rSe, wrapS hk (by omega), evX, Int.reduceEq, Int.reduceLT, Int.reduceLE, Nat.reduceMul, Nat.reduceMod, evW, fn_eq, evR, Nat.reduceAdd, Nat.reduceLT, Nat.reduceLeDiff, reduceIte, Nat.reduceEqDiff, reduceCtorEq, argEnv, eq_self, if_true, if_false]
      repeat' ((first | rw [guardK_cases] | rw [condK_bool] | rw [guardD_cases]); split <;> simp only [c43_l2, hE, hki, ha, h1, h2, rSe, wrapS hk (by omega), evX, Int.reduceEq, Int.reduceLT, Int.reduceLE, Nat.reduceMul, Nat.reduceMod, evW, evR, Nat.reduceAdd, Nat.reduceLT, Nat.reduceLeDiff, reduceIte, Nat.reduceEqDiff, reduceCtorEq, argEnv, eq_self, if_true, if_false, *])
      all_goals first | exact Sc.next (by first | (simp_all [eq_comm]; done) | (simp_all [eq_comm]; intros; omega)) (by rfl) | exact Sc.ret (by first | (simp_all [eq_comm]; done) | (simp_all [eq_comm]; intros; omega)) ⟨rfl, by first | rfl | exact ⟨rfl, rfl, rfl⟩⟩ | exact Sc.exit (by first | (simp_all [eq_comm]; done) | (simp_all [eq_comm]; intros; omega)) ⟨rfl, rfl⟩)
    (fun E G hE => by
      rw [List.length_take, Nat.min_eq_left (by omega)] at hE
      simp only [c43_l2, hE, Int.lt_irrefl, evX, Int.reduceEq, Int.reduceLT, Int.reduceLE, Nat.reduceMul, Nat.reduceMod, evW, fn_eq, evR, Nat.reduceAdd, Nat.reduceLT, Nat.reduceLeDiff, reduceIte, Nat.reduceEqDiff, reduceCtorEq, argEnv, eq_self, if_true, if_false]
      exact .exit (K := []) ⟨rfl, by rfl⟩) st G hE hH z hz
  rcases L with ⟨h, L⟩ | ⟨h, L⟩
  · refine .inl ⟨?_, L⟩
    rw [List.any_eq_false]; intro x hx
    have := List.all_eq_true.1 h x hx
    simpa using this
  · refine .inr ⟨?_, L⟩
    obtain ⟨x, hx, h⟩ := List.all_eq_false.1 h
    rw [List.any_eq_true]; exact ⟨x, hx, by simpa using h⟩
end Go.Proofs.YtbdpceigmnpoaaaGreatDoor.Code

/- plain: which bases are valid, as the document asks: types and indexes. -/
set_option linter.unusedSimpArgs false
set_option linter.unusedVariables false
namespace Go.Proofs.YtbdpceigmnpoaaaGreatDoor.Code
open Go.Proofs.YtbdpceigmnpoaaaGreatDoor.Ev

theorem m43 (b : Base) (hb : b.Ok) (h8 : b.types.length ≤ 8) (H : Heap) (b1 : Nat) (hs0 : Sits H b1 (bBase b)) (st : St) (G : Heap) (hE : keepEnv st.1 [1, 3] = [(1, .ptr b1 0 4 0 0), (3, .int .i64 0)]) (hH : st.2 = H ++ ([] ++ G)) (z : Option (CX × St)) (hz : itLim (evCode (evC cprog) itLim c43_l1) st = z) :
    (tysOk b.types = true ∧ Lv H [] (fun c T => c = .exit 0 ∧ keepEnv T [1] = [(1, .ptr b1 0 4 0 0)]) z) ∨ (tysOk b.types = false ∧ Lv H [] (fun c T => c = .ret ∧ get T 2 = some (.bool false)) z) := by
  have hlen := (sTys [] b.types).len
  simp only [List.length_map] at hlen
  have hs := hs0
  simp only [bBase, Sits] at hs
  have L := scan_pre b.types (tyAt b.types) [1, 3] (fun i => [(1, .ptr b1 0 4 0 0), (3, .int .i64 (i : Int))]) H [] (evCode (evC cprog) itLim c43_l1) (fun c T => c = .exit 0 ∧ keepEnv T [1] = [(1, .ptr b1 0 4 0 0)]) (fun _ _ c T => c = .ret ∧ get T 2 = some (.bool false))
    (fun i t hx hpre E G hE => by
      have hlt : i < b.types.length := (List.getElem?_eq_some_iff.1 hx).1
      have hi : (i : Int) < (b.types.length : Int) := by omega
      have hok := hb.type t (List.mem_of_getElem? hx)
      have ha := aTy hx
      have hn := f77 t.name hok.name
      have hg := good_of hpre
      cases n1 : isName t.name with
      | false =>
        simp only [c43_l1, hE, hi, ha, hs, hlen, hn, n1, rTy, evX, Int.reduceEq, Int.reduceLT, Int.reduceLE, Nat.reduceMul, Nat.reduceMod, evW, fn_eq, evR, Nat.reduceAdd, Nat.reduceLT, Nat.reduceLeDiff, reduceIte, Nat.reduceEqDiff, reduceCtorEq, argEnv, eq_self, if_true, if_false]
        exact Sc.ret (by simp [tyAt, tyOk, n1]) ⟨rfl, rfl⟩
      | true =>
        by_cases m1 : t.min < 1
        · simp only [c43_l1, hE, hi, ha, hs, hlen, hn, n1, m1, rTy, evX, Int.reduceEq, Int.reduceLT, Int.reduceLE, Nat.reduceMul, Nat.reduceMod, evW, fn_eq, evR, Nat.reduceAdd, Nat.reduceLT, Nat.reduceLeDiff, reduceIte, Nat.reduceEqDiff, reduceCtorEq, argEnv, eq_self, if_true, if_false]
          exact Sc.ret (by simp [tyAt, tyOk, sizeOk]; omega) ⟨rfl, rfl⟩
        by_cases m2 : t.size < t.min
        · simp only [c43_l1, hE, hi, ha, hs, hlen, hn, n1, m1, m2, rTy, evX, Int.reduceEq, Int.reduceLT, Int.reduceLE, Nat.reduceMul, Nat.reduceMod, evW, fn_eq, evR, Nat.reduceAdd, Nat.reduceLT, Nat.reduceLeDiff, reduceIte, Nat.reduceEqDiff, reduceCtorEq, argEnv, eq_self, if_true, if_false]
          exact Sc.ret (by simp [tyAt, tyOk, sizeOk]; omega) ⟨rfl, rfl⟩
        by_cases m3 : 40 < t.size
        · simp only [c43_l1, hE, hi, ha, hs, hlen, hn, n1, m1, m2, m3, rTy, evX, Int.reduceEq, Int.reduceLT, Int.reduceLE, Nat.reduceMul, Nat.reduceMod, evW, fn_eq, evR, Nat.reduceAdd, Nat.reduceLT, Nat.reduceLeDiff, reduceIte, Nat.reduceEqDiff, reduceCtorEq, argEnv, eq_self, if_true, if_false]
          exact Sc.ret (by simp [tyAt, tyOk, sizeOk]; omega) ⟨rfl, rfl⟩
        have hsz : sizeOk t = true := by simp [sizeOk]; omega
        have h61 := f78 t hok hsz
        simp only [rTy] at h61
        cases m4 : fieldsOk t && keyOk t with
        | false =>
          simp only [c43_l1, hE, hi, ha, hs, hlen, hn, n1, m1, m2, m3, m4, h61, rTy, evX, Int.reduceEq, Int.reduceLT, Int.reduceLE, Nat.reduceMul, Nat.reduceMod, evW, fn_eq, evR, Nat.reduceAdd, Nat.reduceLT, Nat.reduceLeDiff, reduceIte, Nat.reduceEqDiff, reduceCtorEq, argEnv, eq_self, if_true, if_false]
          refine Sc.ret ?_ ⟨rfl, rfl⟩
          have : tyOk t = false := by unfold tyOk; rw [Bool.and_assoc _ (fieldsOk t), m4]; simp
          simp [tyAt, this]
        | true =>
          have hty : tyOk t = true := by unfold tyOk; rw [Bool.and_assoc _ (fieldsOk t), m4, n1, hsz]; rfl
          simp only [c43_l1, hE, hi, ha, hs, hlen, hn, n1, m1, m2, m3, m4, h61, rTy, evX, Int.reduceEq, Int.reduceLT, Int.reduceLE, Nat.reduceMul, Nat.reduceMod, evW, fn_eq, evR, Nat.reduceAdd, Nat.reduceLT, Nat.reduceLeDiff, reduceIte, Nat.reduceEqDiff, reduceCtorEq, argEnv, eq_self, if_true, if_false]
          generalize hz : itLim _ _ = z
          rcases l43a b t i hlt (by omega) (H ++ (G ++ [bTy t])) b1 (H.length + G.length) (fun X => by rw [List.append_assoc]; exact hs0 _) (.mk (by simp)) _ [] (by rfl) (by simp [bTy, rTy]) z hz with ⟨h, c, T, G', rfl, _, rfl, hT⟩ | ⟨h, c, T, G', rfl, _, rfl, hT⟩
          · by_cases hi0 : i = 0
            · subst hi0
              have e0 : ((0 : Nat) : Int) = 0 := rfl
              rw [e0] at hT
              by_cases r1 : t.parent = -1
              · by_cases r2 : t.key < 0
                · simp only [hT, bTy, rTy, r1, r2, evX, Int.reduceEq, Int.reduceLT, Int.reduceLE, Nat.reduceMul, Nat.reduceMod, evW, fn_eq, evR, Nat.reduceAdd, Nat.reduceLT, Nat.reduceLeDiff, reduceIte, Nat.reduceEqDiff, reduceCtorEq, argEnv, eq_self, if_true, if_false]
                  exact Sc.ret (by simp [tyAt, rootOk]; omega) ⟨rfl, rfl⟩
                · cases r3 : t.unique with
                  | false =>
                    simp only [hT, bTy, rTy, r1, r2, r3, evX, Int.reduceEq, Int.reduceLT, Int.reduceLE, Nat.reduceMul, Nat.reduceMod, evW, fn_eq, evR, Nat.reduceAdd, Nat.reduceLT, Nat.reduceLeDiff, reduceIte, Nat.reduceEqDiff, reduceCtorEq, argEnv, eq_self, if_true, if_false]
                    exact Sc.ret (by simp [tyAt, rootOk, r3]) ⟨rfl, rfl⟩
                  | true =>
                    rcases key_cases t with hk | hk | hk | ⟨k, f, hk, hf⟩
                    · omega
                    · omega
                    · have := key_far hk; simp [this] at m4
                    · have haf := aFd hf
                      have k2 : ¬ (k : Int) < 0 := by omega
                      have hanc : anc b.types 0 = [((0 : Nat) : Int)] := anc_root fun t' ht' => by rw [hx] at ht'; cases ht'; omega
                      have hk0 : (0 : Int) ≤ t.key := by omega
                      by_cases r4 : 24 < f.bytes
                      · simp only [hT, bTy, rTy, rFd, r1, hk, k2, r3, haf, r4, evX, Int.reduceEq, Int.reduceLT, Int.reduceLE, Nat.reduceMul, Nat.reduceMod, evW, fn_eq, evR, Nat.reduceAdd, Nat.reduceLT, Nat.reduceLeDiff, reduceIte, Nat.reduceEqDiff, reduceCtorEq, argEnv, eq_self, if_true, if_false]
                        exact Sc.ret (by simp [tyAt, rootOk, r3, hk, hf]; omega) ⟨rfl, rfl⟩
                      · have r5 : f.bytes ≤ 24 := by omega
                        simp only [hT, bTy, rTy, rFd, r1, hk, k2, r3, haf, r4, evX, Int.reduceEq, Int.reduceLT, Int.reduceLE, Nat.reduceMul, Nat.reduceMod, evW, fn_eq, evR, Nat.reduceAdd, Nat.reduceLT, Nat.reduceLeDiff, reduceIte, Nat.reduceEqDiff, reduceCtorEq, argEnv, eq_self, if_true, if_false]
                        exact Sc.next (by simp [tyAt, rootOk, r1, r3, hk, hf, hty, hanc, r5]) (by rfl)
              · simp only [hT, bTy, rTy, r1, evX, Int.reduceEq, Int.reduceLT, Int.reduceLE, Nat.reduceMul, Nat.reduceMod, evW, fn_eq, evR, Nat.reduceAdd, Nat.reduceLT, Nat.reduceLeDiff, reduceIte, Nat.reduceEqDiff, reduceCtorEq, argEnv, eq_self, if_true, if_false]
                exact Sc.ret (by simp [tyAt, rootOk, r1]) ⟨rfl, rfl⟩
            · have n0 : decide ((i : Int) = 0) = false := decide_eq_false (by omega)
              obtain ⟨j, rfl⟩ : ∃ j, i = j + 1 := ⟨i - 1, by omega⟩
              by_cases p1 : t.parent < 0
              · simp only [hT, bTy, rTy, n0, p1, evX, Int.reduceEq, Int.reduceLT, Int.reduceLE, Nat.reduceMul, Nat.reduceMod, evW, fn_eq, evR, Nat.reduceAdd, Nat.reduceLT, Nat.reduceLeDiff, reduceIte, Nat.reduceEqDiff, reduceCtorEq, argEnv, eq_self, if_true, if_false]
                refine Sc.ret ?_ ⟨rfl, rfl⟩
                have : t.parent ∉ wayTo b.types (j + 1) := fun h => by have := anc_bound h; omega
                simp [tyAt, this]
              by_cases p2 : ((j + 1 : Nat) : Int) ≤ t.parent
              · simp only [hT, bTy, rTy, n0, p1, p2, evX, Int.reduceEq, Int.reduceLT, Int.reduceLE, Nat.reduceMul, Nat.reduceMod, evW, fn_eq, evR, Nat.reduceAdd, Nat.reduceLT, Nat.reduceLeDiff, reduceIte, Nat.reduceEqDiff, reduceCtorEq, argEnv, eq_self, if_true, if_false]
                refine Sc.ret ?_ ⟨rfl, rfl⟩
                have : t.parent ∉ wayTo b.types (j + 1) := fun h => by have := anc_bound h; omega
                simp [tyAt, this]
              have hw : IntKind.i64.wrap (((j + 1 : Nat) : Int) - 1) = (j : Int) := by rw [wrap_i64 (by omega) (by omega)]; omega
              have h62 := f79 b (j + 1) hg (by omega) t.parent j (by omega)
              simp only [eBase] at h62
              have hanc : anc b.types (j + 1) = anc b.types t.parent.toNat ++ [((j + 1 : Nat) : Int)] := anc_up hx (by omega) (by omega)
              have h63 : ∀ H, cal (evC cprog) true 80 [eBase b, .int .i64 ((j + 1 : Nat) : Int)] H = some (eIs (anc b.types (j + 1)), H) := fun H => by
                by_cases hp : t.parent < ((j + 1 : Nat) : Int)
                · exact f80 b (j + 2) (fun k t' hk ht' => by
                    by_cases hkj : k = j + 1
                    · subst hkj; rw [hx] at ht'; cases ht'; omega
                    · exact hg k t' (by omega) ht') (by omega) (by omega) (j + 1) (by omega) H
                · omega
              simp only [eBase] at h63
              have hlen5 := (sIs [] (anc b.types (j + 1))).len
              simp only [List.length_map] at hlen5
              by_cases p3 : t.parent = (j : Int)
              · have hm : t.parent ∈ anc b.types j := by rw [p3]; exact anc_self _ _
                have q1 : ¬ (j : Int) < 0 := by omega
                have q2 : ¬ ((j + 1 : Nat) : Int) ≤ (j : Int) := by omega
                by_cases p5 : 5 < ((anc b.types (j + 1)).length : Int)
                · simp only [hT, hs, bTy, rTy, n0, p1, p2, hw, p3, q1, q2, h63, hlen5, p5, evX, Int.reduceEq, Int.reduceLT, Int.reduceLE, Nat.reduceMul, Nat.reduceMod, evW, fn_eq, evR, Nat.reduceAdd, Nat.reduceLT, Nat.reduceLeDiff, reduceIte, Nat.reduceEqDiff, reduceCtorEq, argEnv, eq_self, if_true, if_false]
                  all_goals first | (exfalso; omega) | exact Sc.ret (by simp [tyAt]; omega) ⟨rfl, rfl⟩
                · simp only [hT, hs, bTy, rTy, n0, p1, p2, hw, p3, q1, q2, h63, hlen5, p5, wrapS hlt (by omega), evX, Int.reduceEq, Int.reduceLT, Int.reduceLE, Nat.reduceMul, Nat.reduceMod, evW, fn_eq, evR, Nat.reduceAdd, Nat.reduceLT, Nat.reduceLeDiff, reduceIte, Nat.reduceEqDiff, reduceCtorEq, argEnv, eq_self, if_true, if_false]
                  all_goals first | (exfalso; omega) | exact Sc.next (by simp [tyAt, hty, h, wayTo, hm]; omega) (by rfl)
              cases p4 : decide (t.parent ∈ (anc b.types j).dropLast) with
              | false =>
                have hm : t.parent ∉ anc b.types j := by rw [mem_anc]; simp at p4; simp [p4, p3]
                simp only [hT, hs, bTy, rTy, n0, p1, p2, hw, p3, h62, p4, evX, Int.reduceEq, Int.reduceLT, Int.reduceLE, Nat.reduceMul, Nat.reduceMod, evW, fn_eq, evR, Nat.reduceAdd, Nat.reduceLT, Nat.reduceLeDiff, reduceIte, Nat.reduceEqDiff, reduceCtorEq, argEnv, eq_self, if_true, if_false]
                all_goals first | (exfalso; omega) | exact Sc.ret (by simp [tyAt, wayTo, hm]) ⟨rfl, rfl⟩
              | true =>
                have hm : t.parent ∈ anc b.types j := by rw [mem_anc]; simp at p4; exact .inl p4
                by_cases p5 : 5 < ((anc b.types (j + 1)).length : Int)
                · simp only [hT, hs, bTy, rTy, n0, p1, p2, hw, p3, h62, p4, h63, hlen5, p5, evX, Int.reduceEq, Int.reduceLT, Int.reduceLE, Nat.reduceMul, Nat.reduceMod, evW, fn_eq, evR, Nat.reduceAdd, Nat.reduceLT, Nat.reduceLeDiff, reduceIte, Nat.reduceEqDiff, reduceCtorEq, argEnv, eq_self, if_true, if_false]
                  all_goals first | (exfalso; omega) | exact Sc.ret (by simp [tyAt]; omega) ⟨rfl, rfl⟩
                · simp only [hT, hs, bTy, rTy, n0, p1, p2, hw, p3, h62, p4, h63, hlen5, p5, wrapS hlt (by omega), evX, Int.reduceEq, Int.reduceLT, Int.reduceLE, Nat.reduceMul, Nat.reduceMod, evW, fn_eq, evR, Nat.reduceAdd, Nat.reduceLT, Nat.reduceLeDiff, reduceIte, Nat.reduceEqDiff, reduceCtorEq, argEnv, eq_self, if_true, if_false]
                  all_goals first | (exfalso; omega) | exact Sc.next (by simp [tyAt, hty, h, wayTo, hm]; omega) (by rfl)
          · simp only [hT, evX, Int.reduceEq, Int.reduceLT, Int.reduceLE, Nat.reduceMul, Nat.reduceMod, evW, fn_eq, evR, Nat.reduceAdd, Nat.reduceLT, Nat.reduceLeDiff, reduceIte, Nat.reduceEqDiff, reduceCtorEq, argEnv, eq_self, if_true, if_false]
            exact Sc.ret (by simp [tyAt, h]) ⟨rfl, hT⟩)
    (fun _ E G hE => by
      simp only [c43_l1, hE, hs, hlen, Int.lt_irrefl, evX, Int.reduceEq, Int.reduceLT, Int.reduceLE, Nat.reduceMul, Nat.reduceMod, evW, fn_eq, evR, Nat.reduceAdd, Nat.reduceLT, Nat.reduceLeDiff, reduceIte, Nat.reduceEqDiff, reduceCtorEq, argEnv, eq_self, if_true, if_false]
      exact .exit (K := []) ⟨rfl, by rfl⟩) st G hE hH z hz
  rcases L with ⟨h, L⟩ | ⟨i, f, hx, h, _, L⟩
  · exact .inl ⟨tell_pos h, L⟩
  · exact .inr ⟨tell_neg fun h' => by rw [h' i f hx] at h; (cases h), L⟩
end Go.Proofs.YtbdpceigmnpoaaaGreatDoor.Code

/- plain: which bases are valid, as the document asks: the whole. -/
set_option linter.unusedSimpArgs false
set_option linter.unusedVariables false
namespace Go.Proofs.YtbdpceigmnpoaaaGreatDoor.Code
open Go.Proofs.YtbdpceigmnpoaaaGreatDoor.Ev

theorem n43 (b : Base) (hb : b.Ok) (H : Heap) (b1 : Nat) (hs0 : Sits H b1 (bBase b)) (st : St) (G : Heap) (hE : keepEnv st.1 [1, 6] = [(1, .ptr b1 0 4 0 0), (6, .int .i64 0)]) (hH : st.2 = H ++ ([] ++ G)) (z : Option (CX × St)) (hz : itLim (evCode (evC cprog) itLim c43_l3) st = z) :
    (sesOk b.types b.indexes = true ∧ Lv H [] (fun c T => c = .exit 4) z) ∨ (sesOk b.types b.indexes = false ∧ Lv H [] (fun c T => c = .ret ∧ get T 2 = some (.bool false)) z) := by
  have hlen := (sSes [] b.indexes).len
  have hlt' := (sTys [] b.types).len
  simp only [List.length_map] at hlen hlt'
  have hs := hs0
  simp only [bBase, Sits] at hs
  have L := scan_rule b.indexes (seOk b.types b.indexes) [1, 6] (fun i => [(1, .ptr b1 0 4 0 0), (6, .int .i64 (i : Int))]) H [] (evCode (evC cprog) itLim c43_l3) (fun c T => c = .exit 4) (fun _ _ c T => c = .ret ∧ get T 2 = some (.bool false))
    (fun i x hx E G hE => by
      have hlt : i < b.indexes.length := (List.getElem?_eq_some_iff.1 hx).1
      have hi : (i : Int) < (b.indexes.length : Int) := by omega
      have hxo := hb.index x (List.mem_of_getElem? hx)
      have ha := aSe hx
      have hn := f77 x.name hxo.name
      cases n1 : isName x.name with
      | false =>
        simp only [c43_l3, hE, hi, ha, hs, hlen, hn, n1, rSe, evX, Int.reduceEq, Int.reduceLT, Int.reduceLE, Nat.reduceMul, Nat.reduceMod, evW, fn_eq, evR, Nat.reduceAdd, Nat.reduceLT, Nat.reduceLeDiff, reduceIte, Nat.reduceEqDiff, reduceCtorEq, argEnv, eq_self, if_true, if_false]
        exact Sc.ret (by simp [seOk, n1]) ⟨rfl, rfl⟩
      | true =>
      rcases fld_cases b.types x with ⟨hf, h | ⟨h, h'⟩ | ⟨k, t, hk, hkl, ht, h⟩⟩ | ⟨k, t, m, f, hf, hk, hkl, ht, hm, hml, hff⟩
      · simp only [c43_l3, hE, hi, ha, hs, hlen, hn, n1, h, rSe, evX, Int.reduceEq, Int.reduceLT, Int.reduceLE, Nat.reduceMul, Nat.reduceMod, evW, fn_eq, evR, Nat.reduceAdd, Nat.reduceLT, Nat.reduceLeDiff, reduceIte, Nat.reduceEqDiff, reduceCtorEq, argEnv, eq_self, if_true, if_false]
        exact Sc.ret (by simp [seOk, hf, atMost20]) ⟨rfl, rfl⟩
      · have h0 : ¬ x.type < 0 := by omega
        simp only [c43_l3, hE, hi, ha, hs, hlen, hlt', hn, n1, h0, h', rSe, evX, Int.reduceEq, Int.reduceLT, Int.reduceLE, Nat.reduceMul, Nat.reduceMod, evW, fn_eq, evR, Nat.reduceAdd, Nat.reduceLT, Nat.reduceLeDiff, reduceIte, Nat.reduceEqDiff, reduceCtorEq, argEnv, eq_self, if_true, if_false]
        exact Sc.ret (by simp [seOk, hf, atMost20]) ⟨rfl, rfl⟩
      · have k0 : ¬ (k : Int) < 0 := by omega
        have k1 : ¬ (b.types.length : Int) ≤ (k : Int) := by omega
        have hat := aTy ht
        have hfl := (sFds [] t.fields).len
        simp only [List.length_map] at hfl
        rcases h with h | ⟨h, h'⟩
        · simp only [c43_l3, hE, hi, ha, hs, hlen, hlt', hn, n1, hk, k0, k1, hat, hfl, h, rSe, rTy, evX, Int.reduceEq, Int.reduceLT, Int.reduceLE, Nat.reduceMul, Nat.reduceMod, evW, fn_eq, evR, Nat.reduceAdd, Nat.reduceLT, Nat.reduceLeDiff, reduceIte, Nat.reduceEqDiff, reduceCtorEq, argEnv, eq_self, if_true, if_false]
          exact Sc.ret (by simp [seOk, hf, atMost20]) ⟨rfl, rfl⟩
        · have h0 : ¬ x.field < 0 := by omega
          simp only [c43_l3, hE, hi, ha, hs, hlen, hlt', hn, n1, hk, k0, k1, hat, hfl, h0, h', rSe, rTy, evX, Int.reduceEq, Int.reduceLT, Int.reduceLE, Nat.reduceMul, Nat.reduceMod, evW, fn_eq, evR, Nat.reduceAdd, Nat.reduceLT, Nat.reduceLeDiff, reduceIte, Nat.reduceEqDiff, reduceCtorEq, argEnv, eq_self, if_true, if_false]
          exact Sc.ret (by simp [seOk, hf, atMost20]) ⟨rfl, rfl⟩
      · have k0 : ¬ (k : Int) < 0 := by omega
        have k1 : ¬ (b.types.length : Int) ≤ (k : Int) := by omega
        have m0 : ¬ (m : Int) < 0 := by omega
        have m1 : ¬ (t.fields.length : Int) ≤ (m : Int) := by omega
        have hat := aTy ht
        have haf := aFd hff
        have hfl := (sFds [] t.fields).len
        simp only [List.length_map] at hfl
        by_cases q1 : 20 < f.bytes
        · simp only [c43_l3, hE, hi, ha, hs, hlen, hlt', hn, n1, hk, k0, k1, hat, hfl, hm, m0, m1, haf, q1, rSe, rTy, rFd, evX, Int.reduceEq, Int.reduceLT, Int.reduceLE, Nat.reduceMul, Nat.reduceMod, evW, fn_eq, evR, Nat.reduceAdd, Nat.reduceLT, Nat.reduceLeDiff, reduceIte, Nat.reduceEqDiff, reduceCtorEq, argEnv, eq_self, if_true, if_false]
          exact Sc.ret (by simp [seOk, hf, atMost20]; intros; omega) ⟨rfl, rfl⟩
        by_cases q2 : (1 : Int) < x.sparse.size
        · simp only [c43_l3, hE, hi, ha, hs, hlen, hlt', hn, n1, hk, k0, k1, hat, hfl, hm, m0, m1, haf, q1, q2, rSe, rTy, rFd, evX, Int.reduceEq, Int.reduceLT, Int.reduceLE, Nat.reduceMul, Nat.reduceMod, evW, fn_eq, evR, Nat.reduceAdd, Nat.reduceLT, Nat.reduceLeDiff, reduceIte, Nat.reduceEqDiff, reduceCtorEq, argEnv, eq_self, if_true, if_false]
          exact Sc.ret (by simp [seOk]; intros; omega) ⟨rfl, rfl⟩
        simp only [c43_l3, hE, hi, ha, hs, hlen, hlt', hn, n1, hk, k0, k1, hat, hfl, hm, m0, m1, haf, q1, q2, rSe, rTy, rFd, evX, Int.reduceEq, Int.reduceLT, Int.reduceLE, Nat.reduceMul, Nat.reduceMod, evW, fn_eq, evR, Nat.reduceAdd, Nat.reduceLT, Nat.reduceLeDiff, reduceIte, Nat.reduceEqDiff, reduceCtorEq, argEnv, eq_self, if_true, if_false]
        generalize hz : itLim _ _ = z
        rcases l43b b x i hlt hb.indexes (H ++ (G ++ [bSe x])) b1 (H.length + G.length) (fun X => by rw [List.append_assoc]; exact hs0 _) (.mk (by simp)) _ [] (by rfl) (by simp [bSe, rSe, hk, hm]) z hz with ⟨h, c, T, G', rfl, _, rfl, hT⟩ | ⟨h, c, T, G', rfl, _, rfl, hT⟩
        · simp only [hT, wrapS hlt hb.indexes, evX, Int.reduceEq, Int.reduceLT, Int.reduceLE, Nat.reduceMul, Nat.reduceMod, evW, fn_eq, evR, Nat.reduceAdd, Nat.reduceLT, Nat.reduceLeDiff, reduceIte, Nat.reduceEqDiff, reduceCtorEq, argEnv, eq_self, if_true, if_false]
          exact Sc.next (by simp [seOk, h, n1, hf, atMost20]; omega) (by rfl)
        · simp only [hT, evX, Int.reduceEq, Int.reduceLT, Int.reduceLE, Nat.reduceMul, Nat.reduceMod, evW, fn_eq, evR, Nat.reduceAdd, Nat.reduceLT, Nat.reduceLeDiff, reduceIte, Nat.reduceEqDiff, reduceCtorEq, argEnv, eq_self, if_true, if_false]
          exact Sc.ret (by simp [seOk, h]) ⟨rfl, hT⟩)
    (fun E G hE => by
      simp only [c43_l3, hE, hs, hlen, Int.lt_irrefl, evX, Int.reduceEq, Int.reduceLT, Int.reduceLE, Nat.reduceMul, Nat.reduceMod, evW, fn_eq, evR, Nat.reduceAdd, Nat.reduceLT, Nat.reduceLeDiff, reduceIte, Nat.reduceEqDiff, reduceCtorEq, argEnv, eq_self, if_true, if_false]
      exact .exit (K := []) rfl) st G hE hH z hz
  rcases L with ⟨h, L⟩ | ⟨i, f, hx, h, _, L⟩
  · exact .inl ⟨tell_pos h, L⟩
  · exact .inr ⟨tell_neg fun h' => by rw [h' i f hx] at h; (cases h), L⟩
theorem f43 (b : Base) (hb : b.Ok) (H : Heap) : cal (evC cprog) false 43 [eBase b] H = some (.bool (validB b), H) := by
  rw [cal_of at43]
  have hn := f77 b.name hb.name
  have hlen := (sTys [] b.types).len
  have hlen' := (sSes [] b.indexes).len
  simp only [List.length_map] at hlen hlen'
  cases n1 : isName b.name && decide (1 ≤ b.kind) && decide (b.kind ≤ 4) && decide ((1 : Int) ≤ b.types.length) && decide ((b.types.length : Int) ≤ 8) && decide ((b.indexes.length : Int) ≤ 3) with
  | false =>
    have hv : validB b = false := by
      simp only [validB, areTys] at *
      cases h1 : isName b.name <;> cases h2 : decide (1 ≤ b.kind) <;> cases h3 : decide (b.kind ≤ 4) <;> cases h4 : decide ((1 : Int) ≤ b.types.length) <;> cases h5 : decide ((b.types.length : Int) ≤ 8) <;> cases h6 : decide ((b.indexes.length : Int) ≤ 3) <;> simp_all
    rw [hv]
    simp only [Bool.and_eq_false_iff, decide_eq_false_iff_not] at n1
    simp only [c43, eBase, hn, hlen, hlen', evX, Int.reduceEq, Int.reduceLT, Int.reduceLE, Nat.reduceMul, Nat.reduceMod, evW, fn_eq, evR, Nat.reduceAdd, Nat.reduceLT, Nat.reduceLeDiff, reduceIte, Nat.reduceEqDiff, reduceCtorEq, argEnv, eq_self, if_true, if_false]
    repeat' ((first | rw [guardK_cases] | rw [condK_bool] | rw [guardD_cases]); split <;> simp only [c43, eBase, hn, hlen, hlen', evX, Int.reduceEq, Int.reduceLT, Int.reduceLE, Nat.reduceMul, Nat.reduceMod, evW, evR, Nat.reduceAdd, Nat.reduceLT, Nat.reduceLeDiff, reduceIte, Nat.reduceEqDiff, reduceCtorEq, argEnv, eq_self, if_true, if_false, *])
    exfalso
    simp only [decide_eq_true_eq] at *
    rename_i g1 g2 g3 g4 g5 g6
    rcases n1 with ((((n1 | n1) | n1) | n1) | n1) | n1
    · simp [n1] at g1
    all_goals omega
  | true =>
    simp only [Bool.and_eq_true, decide_eq_true_eq] at n1
    obtain ⟨⟨⟨⟨⟨n1, n2⟩, n3⟩, n4⟩, n5⟩, n6⟩ := n1
    have m2 : ¬ b.kind < 1 := by omega
    have m3 : ¬ 4 < b.kind := by omega
    have m4 : ¬ (b.types.length : Int) < 1 := by omega
    have m5 : ¬ (8 : Int) < (b.types.length : Int) := by omega
    have m6 : ¬ (3 : Int) < (b.indexes.length : Int) := by omega
    have hv : validB b = (tysOk b.types && sesOk b.types b.indexes) := by
      simp only [validB, areTys, n1, decide_eq_true n2, decide_eq_true n3, decide_eq_true n4, decide_eq_true n5, decide_eq_true n6, Bool.true_and, Bool.and_true]
    rw [hv]
    simp only [c43, eBase, hn, hlen, hlen', n1, m2, m3, m4, m5, m6, evX, Int.reduceEq, Int.reduceLT, Int.reduceLE, Nat.reduceMul, Nat.reduceMod, evW, fn_eq, evR, Nat.reduceAdd, Nat.reduceLT, Nat.reduceLeDiff, reduceIte, Nat.reduceEqDiff, reduceCtorEq, argEnv, eq_self, if_true, if_false]
    generalize hz : itLim _ _ = z
    rcases m43 b hb (by omega) (H ++ [bBase b]) H.length (.mk (by simp)) _ [] (by rfl) (by simp [bBase]) z hz with ⟨h, c, T, G', rfl, _, rfl, hT⟩ | ⟨h, c, T, G', rfl, _, rfl, hT⟩
    · simp only [hT, h, evX, Int.reduceEq, Int.reduceLT, Int.reduceLE, Nat.reduceMul, Nat.reduceMod, evW, fn_eq, evR, Nat.reduceAdd, Nat.reduceLT, Nat.reduceLeDiff, reduceIte, Nat.reduceEqDiff, reduceCtorEq, argEnv, eq_self, if_true, if_false]
      generalize hz : itLim _ _ = z
      rcases n43 b hb (H ++ [bBase b]) H.length (.mk (by simp)) _ G' (by rfl) (by simp) z hz with ⟨h, c, T, G', rfl, _, rfl⟩ | ⟨h, c, T, G', rfl, _, rfl, hT⟩
      · simp only [h, evX, Int.reduceEq, Int.reduceLT, Int.reduceLE, Nat.reduceMul, Nat.reduceMod, evW, fn_eq, evR, Nat.reduceAdd, Nat.reduceLT, Nat.reduceLeDiff, reduceIte, Nat.reduceEqDiff, reduceCtorEq, argEnv, eq_self, if_true, if_false]
      · simp only [h, hT, evX, Int.reduceEq, Int.reduceLT, Int.reduceLE, Nat.reduceMul, Nat.reduceMod, evW, fn_eq, evR, Nat.reduceAdd, Nat.reduceLT, Nat.reduceLeDiff, reduceIte, Nat.reduceEqDiff, reduceCtorEq, argEnv, eq_self, if_true, if_false]
    · simp only [h, hT, evX, Int.reduceEq, Int.reduceLT, Int.reduceLE, Nat.reduceMul, Nat.reduceMod, evW, fn_eq, evR, Nat.reduceAdd, Nat.reduceLT, Nat.reduceLeDiff, reduceIte, Nat.reduceEqDiff, reduceCtorEq, argEnv, eq_self, if_true, if_false]
end Go.Proofs.YtbdpceigmnpoaaaGreatDoor.Code

/- plain: forests in hierarchical order (mathematics). -/
set_option linter.unusedSimpArgs false
set_option linter.unusedVariables false
namespace Go.Proofs.YtbdpceigmnpoaaaGreatDoor.Code
open Go.Proofs.YtbdpceigmnpoaaaGreatDoor.Ev

def typ (f : List Item) (k : Int) : Int := match f[k.toNat]? with
  | some x => x.type
  | none => -1
def tpar (ts : List Ty) (t : Int) : Int := match ts[t.toNat]? with
  | some y => y.parent
  | none => -1
/-- the last one of a type ahead of a place, or -1 -/
def lastTo (f : List Item) (p : Int) : Nat → Int
  | 0 => -1
  | k + 1 => if typ f (k : Int) = p then (k : Int) else lastTo f p k
theorem lastTo_lt (f : List Item) (p : Int) : ∀ n : Nat, -1 ≤ lastTo f p n ∧ lastTo f p n < (n : Int)
  | 0 => by simp [lastTo]
  | k + 1 => by
    have := lastTo_lt f p k
    unfold lastTo
    split <;> omega
theorem lastTo_typ (f : List Item) (p : Int) : ∀ n : Nat, 0 ≤ lastTo f p n → typ f (lastTo f p n) = p
  | 0, h => by simp [lastTo] at h
  | k + 1, h => by
    unfold lastTo at h ⊢
    split
    · assumption
    · rename_i h1; rw [if_neg h1] at h; exact lastTo_typ f p k h
theorem lastTo_is {f : List Item} {p : Int} {a : Nat} (ha : typ f (a : Int) = p) : ∀ n : Nat, a < n → (∀ j : Nat, a < j → j < n → typ f (j : Int) ≠ p) → lastTo f p n = (a : Int)
  | 0, h, _ => by omega
  | k + 1, h, hj => by
    unfold lastTo
    by_cases e : k = a
    · subst e; rw [if_pos ha]
    · rw [if_neg (hj k (by omega) (by omega))]
      exact lastTo_is ha k (by omega) fun j h1 h2 => hj j h1 (by omega)
/-- the place of an item's parent, or -1 -/
def par (ts : List Ty) (f : List Item) (i : Nat) : Int := if tpar ts (typ f (i : Int)) < 0 then -1 else lastTo f (tpar ts (typ f (i : Int))) i
theorem par_lt (ts : List Ty) (f : List Item) (i : Nat) : -1 ≤ par ts f i ∧ par ts f i < (i : Int) := by
  unfold par
  split
  · omega
  · exact lastTo_lt ..
theorem par_typ {ts : List Ty} {f : List Item} {i : Nat} (h : 0 ≤ par ts f i) : typ f (par ts f i) = tpar ts (typ f (i : Int)) ∧ 0 ≤ tpar ts (typ f (i : Int)) := by
  unfold par at h ⊢
  split at h
  · omega
  · rename_i h1; rw [if_neg h1]; exact ⟨lastTo_typ _ _ _ h, by omega⟩
def pk (p : Int) : Ty := ⟨⟨#[]⟩, p, 0, 0, [], 0, false, false⟩
/-- the parents of all items, as a list -/
def pts (ts : List Ty) (f : List Item) : List Ty := (List.range f.length).map fun i => pk (par ts f i)
theorem pts_len (ts : List Ty) (f : List Item) : (pts ts f).length = f.length := by simp [pts]
theorem pts_at (ts : List Ty) (f : List Item) {i : Nat} (h : i < f.length) : (pts ts f)[i]? = some (pk (par ts f i)) := by simp [pts, h]
theorem good_pts (ts : List Ty) (f : List Item) : Good (pts ts f) f.length := fun j t hj ht => by
  rw [pts_at ts f hj] at ht; cases ht
  exact par_lt ts f j
/-- the path of an item -/
def pth (ts : List Ty) (f : List Item) (i : Nat) : List Int := anc (pts ts f) i
def pthI (ts : List Ty) (f : List Item) (i : Int) : List Int := ancI (pts ts f) i
/-- the path of the item ahead of one -/
def way (ts : List Ty) (f : List Item) (i : Nat) : List Int := wayTo (pts ts f) i
theorem pth_eq (ts : List Ty) (f : List Item) {i : Nat} (h : i < f.length) : pth ts f i = pthI ts f (par ts f i) ++ [(i : Int)] := anc_step (good_pts ts f) h (pts_at ts f h)
theorem pth_bound {ts : List Ty} {f : List Item} {i : Nat} {a : Int} (h : a ∈ pth ts f i) : 0 ≤ a ∧ a ≤ (i : Int) := anc_bound h
/-- what is on a way has its own way there -/
theorem take_anc (ts : List Ty) {n : Nat} (hg : Good ts n) (hn : n ≤ ts.length) : ∀ (m k : Nat), k ≤ m → k < n → ∀ (j : Nat) (a : Int), (anc ts k)[j]? = some a → (anc ts k).take (j + 1) = anc ts a.toNat := by
  intro m
  induction m with
  | zero =>
    intro k hk hkn j a ha
    obtain rfl : k = 0 := by omega
    obtain ⟨t, ht⟩ : ∃ t, ts[0]? = some t := ⟨_, List.getElem?_eq_getElem (by omega)⟩
    have := hg 0 t hkn ht
    rw [anc_root fun t' ht' => by rw [ht] at ht'; cases ht'; omega] at ha ⊢
    obtain rfl : j = 0 := by have := (List.getElem?_eq_some_iff.1 ha).1; simpa using this
    simp at ha
    subst ha
    rw [anc_root fun t' ht' => by simp at ht'; rw [ht] at ht'; cases ht'; omega]; rfl
  | succ m ih =>
    intro k hk hkn j a ha
    obtain ⟨t, ht⟩ : ∃ t, ts[k]? = some t := ⟨_, List.getElem?_eq_getElem (by omega)⟩
    have hgt := hg k t hkn ht
    have hs := anc_step hg hkn ht
    rw [hs] at ha ⊢
    by_cases hj : j < (ancI ts t.parent).length
    · rw [List.getElem?_append_left hj] at ha
      rw [List.take_append_of_le_length (by omega)]
      by_cases hp : t.parent < 0
      · rw [ancI_neg _ hp] at hj; simp at hj
      · obtain ⟨p, hp⟩ : ∃ p : Nat, t.parent = (p : Int) := ⟨t.parent.toNat, by omega⟩
        rw [hp, ancI_nat] at ha ⊢
        exact ih p (by omega) (by omega) j a ha
    · rw [List.getElem?_append_right (by omega)] at ha
      have hj0 : j - (ancI ts t.parent).length = 0 := by
        have := (List.getElem?_eq_some_iff.1 ha).1
        simp at this; omega
      rw [hj0] at ha
      simp at ha
      subst ha
      rw [List.take_of_length_le (by simp; omega), ← hs]; simp
theorem anc_trans (ts : List Ty) {b k : Nat} (h1 : (b : Int) ∈ anc ts k) {x : Int} (h2 : x ∈ anc ts b) : x ∈ anc ts k := by
  obtain ⟨j, _, _, h⟩ := idx_anc ts k k (Nat.le_refl _) b h1
  rw [← h] at h2
  exact List.mem_of_mem_take h2
def fits (ts : List Ty) (x : Item) : Bool := match ts[x.type.toNat]? with
  | some t => decide (0 ≤ x.type) && decide (t.min ≤ (x.data.size : Int)) && decide ((x.data.size : Int) ≤ t.size)
  | none => false
end Go.Proofs.YtbdpceigmnpoaaaGreatDoor.Code

/- plain: forests in hierarchical order (mathematics): ways and their types. -/
set_option linter.unusedSimpArgs false
set_option linter.unusedVariables false
namespace Go.Proofs.YtbdpceigmnpoaaaGreatDoor.Code
open Go.Proofs.YtbdpceigmnpoaaaGreatDoor.Ev

def keyOf (t : Ty) (d : ByteArray) : ByteArray := if t.key < 0 then ⟨#[]⟩ else match t.fields[t.key.toNat]? with
  | some f => d.extract f.at'.toNat (f.at' + f.bytes).toNat
  | none => ⟨#[]⟩
def inOrd (t : Ty) (a b : ByteArray) : Bool := decide (t.key < 0) || bLt (keyOf t a) (keyOf t b) || (decide (keyOf t a = keyOf t b) && !t.unique)
def dat (f : List Item) (k : Int) : ByteArray := match f[k.toNat]? with
  | some x => x.data
  | none => ⟨#[]⟩
def tyOf (ts : List Ty) (t : Int) : Ty := match ts[t.toNat]? with
  | some y => y
  | none => pk (-1)
/-- whether an item may stand behind another child of its parent -/
def ordOk (ts : List Ty) (f : List Item) (k : Int) (x : Item) : Bool := decide (typ f k < x.type) || (decide (typ f k = x.type) && inOrd (tyOf ts x.type) (dat f k) x.data)
def nOf (ts : List Ty) (f : List Item) (i : Nat) : Nat := (pthI ts f (par ts f i)).length
def sibOk (ts : List Ty) (f : List Item) (i : Nat) (x : Item) : Bool := match (way ts f i)[nOf ts f i]? with
  | some k => ordOk ts f k x
  | none => true
noncomputable def okAt (ts : List Ty) (f : List Item) (i : Nat) (x : Item) : Bool :=
  fits ts x && (decide (tpar ts x.type < 0) || tell (par ts f i ∈ way ts f i)) && sibOk ts f i x
noncomputable def forestOk (ts : List Ty) (f : List Item) : Bool := decide ((f.length : Int) ≤ 200) && tell (∀ (i : Nat) (x : Item), f[i]? = some x → okAt ts f i x = true)
/-- the items ahead of one are right -/
def FOk (ts : List Ty) (f : List Item) (n : Nat) : Prop := ∀ (j : Nat) (x : Item), j < n → f[j]? = some x → okAt ts f j x = true
theorem typ_at {f : List Item} {i : Nat} {x : Item} (h : f[i]? = some x) : typ f (i : Int) = x.type := by simp [typ, h]
theorem dat_at {f : List Item} {i : Nat} {x : Item} (h : f[i]? = some x) : dat f (i : Int) = x.data := by simp [dat, h]
theorem tyOf_at {ts : List Ty} {i : Nat} {t : Ty} (h : ts[i]? = some t) : tyOf ts (i : Int) = t := by simp [tyOf, h]
theorem tpar_at {ts : List Ty} {i : Nat} {t : Ty} (h : ts[i]? = some t) : tpar ts (i : Int) = t.parent := by simp [tpar, h]
theorem fits_some {ts : List Ty} {x : Item} (h : fits ts x = true) : ∃ (k : Nat) (t : Ty), x.type = (k : Int) ∧ k < ts.length ∧ ts[k]? = some t ∧ t.min ≤ x.data.size ∧ (x.data.size : Int) ≤ t.size := by
  unfold fits at h
  split at h
  · rename_i t ht
    simp only [Bool.and_eq_true, decide_eq_true_eq] at h
    exact ⟨x.type.toNat, t, by omega, (List.getElem?_eq_some_iff.1 ht).1, ht, h.1.2, h.2⟩
  · cases h
theorem tys_good {ts : List Ty} (h : tysOk ts = true) : Good ts ts.length := good_of fun j t _ ht => tell_true.1 h j t ht
theorem tys_root {ts : List Ty} (h : tysOk ts = true) {k : Nat} {t : Ty} (ht : ts[k]? = some t) : t.parent < 0 ↔ k = 0 := by
  have hk := tell_true.1 h k t ht
  constructor
  · intro hp
    by_cases h0 : k = 0
    · exact h0
    · obtain ⟨p, h1, _, _⟩ := parent_of hk h0; omega
  · rintro rfl
    have := parent_root hk; omega
theorem ok_fits {ts : List Ty} {f : List Item} {i : Nat} {x : Item} (h : okAt ts f i x = true) : fits ts x = true := by
  simp only [okAt, Bool.and_eq_true] at h; exact h.1.1
/-- the parent of an item, if it has one, is on the way -/
theorem ok_par {ts : List Ty} {f : List Item} {i : Nat} {x : Item} (hx : f[i]? = some x) (h : okAt ts f i x = true) (hp : 0 ≤ par ts f i) : par ts f i ∈ way ts f i := by
  simp only [okAt, Bool.and_eq_true, Bool.or_eq_true, decide_eq_true_eq, tell_true] at h
  rcases h.1.2 with h1 | h1
  · have := (par_typ hp).2
    rw [typ_at hx] at this; omega
  · exact h1
/-- types rise on a way -/
theorem typ_rise {ts : List Ty} (ht : tysOk ts = true) {f : List Item} {n : Nat} (hn : n ≤ f.length) (hf : FOk ts f n) : ∀ (m k : Nat), k ≤ m → k < n → ∀ a ∈ pth ts f k, a ≠ (k : Int) → typ f a < typ f (k : Int) := by
  intro m
  induction m with
  | zero =>
    intro k hk hkn a ha hne
    have := pth_bound ha; omega
  | succ m ih =>
    intro k hk hkn a ha hne
    rw [pth_eq ts f (by omega)] at ha
    obtain ⟨x, hx⟩ : ∃ x, f[k]? = some x := ⟨_, List.getElem?_eq_getElem (by omega)⟩
    obtain ⟨c, t, h1, h2, h3, _⟩ := fits_some (ok_fits (hf k x hkn hx))
    rcases List.mem_append.1 ha with ha | ha
    · have hb := par_lt ts f k
      by_cases hp : par ts f k < 0
      · simp only [pthI, ancI_neg _ hp] at ha; cases ha
      · have hpt := par_typ (ts := ts) (f := f) (i := k) (by omega)
        rw [typ_at hx, h1, tpar_at h3] at hpt
        have hg := tys_good ht c t h2 h3
        obtain ⟨p, hpp⟩ : ∃ p : Nat, par ts f k = (p : Int) := ⟨(par ts f k).toNat, by omega⟩
        rw [hpp] at ha hpt
        simp only [pthI, ancI_nat] at ha
        rw [typ_at hx, h1]
        by_cases hap : a = (p : Int)
        · rw [hap, hpt.1]; omega
        · have := ih p (by omega) (by omega) a ha hap
          rw [hpt.1] at this; omega
    · simp at ha; exact absurd ha hne
/-- what is on the way of an item is on the ways of all between them -/
theorem way_between {ts : List Ty} {f : List Item} {n : Nat} (hn : n ≤ f.length) (hf : FOk ts f n) : ∀ (j : Nat), j < n → ∀ a ∈ pth ts f j, ∀ j' : Nat, a ≤ (j' : Int) → j' ≤ j → a ∈ pth ts f j' := by
  intro j
  induction j with
  | zero =>
    intro hj a ha j' _ h2
    have e : j' = 0 := by omega
    subst e; exact ha
  | succ j ih =>
    intro hj a ha j' h1 h2
    by_cases e : j' = j + 1
    · subst e; exact ha
    · obtain ⟨x, hx⟩ : ∃ x, f[j + 1]? = some x := ⟨_, List.getElem?_eq_getElem (by omega)⟩
      refine ih (by omega) a ?_ j' h1 (by omega)
      rw [pth_eq ts f (by omega)] at ha
      rcases List.mem_append.1 ha with ha | ha
      · by_cases hp : par ts f (j + 1) < 0
        · simp only [pthI, ancI_neg _ hp] at ha; cases ha
        · have hm := ok_par hx (hf (j + 1) x hj hx) (by omega)
          have hb := par_lt ts f (j + 1)
          obtain ⟨p, hpp⟩ : ∃ p : Nat, par ts f (j + 1) = (p : Int) := ⟨(par ts f (j + 1)).toNat, by omega⟩
          rw [hpp] at ha hm
          simp only [pthI, ancI_nat] at ha
          exact anc_trans (pts ts f) hm ha
      · simp at ha; omega
/-- an item on the way is the last one of its type -/
theorem last_on_way {ts : List Ty} (ht : tysOk ts = true) {f : List Item} {n : Nat} (hn : n ≤ f.length) (hf : FOk ts f n) {j : Nat} (hj : j < n) {a : Nat} (ha : (a : Int) ∈ pth ts f j) : lastTo f (typ f (a : Int)) (j + 1) = (a : Int) := by
  have hb := pth_bound ha
  refine lastTo_is rfl (j + 1) (by omega) fun j' h1 h2 h => ?_
  have := typ_rise ht hn hf j' j' (Nat.le_refl _) (by omega) (a : Int) (way_between hn hf j hj _ ha j' (by omega) (by omega)) (by omega)
  omega
/-- so a parent is on the way if and only if an item of its type is -/
theorem par_way {ts : List Ty} (ht : tysOk ts = true) {f : List Item} {i : Nat} (hi : i < f.length) (hf : FOk ts f i) {x : Item} (hx : f[i]? = some x) (hp : 0 ≤ tpar ts x.type) (j : Nat) (a : Int) (ha : (way ts f i)[j]? = some a) (hta : typ f a = tpar ts x.type) :
    par ts f i = a ∧ (way ts f i).take (j + 1) = pthI ts f a ∧ nOf ts f i = j + 1 := by
  obtain ⟨i, rfl⟩ : ∃ i', i = i' + 1 := ⟨i - 1, by
    cases i with
    | zero => simp [way, wayTo] at ha
    | succ i => omega⟩
  change (pth ts f i)[j]? = some a at ha
  have hm : a ∈ pth ts f i := List.mem_of_getElem? ha
  have hb := pth_bound hm
  obtain ⟨a, rfl⟩ : ∃ a' : Nat, a = (a' : Int) := ⟨a.toNat, by omega⟩
  have hl := last_on_way ht (by omega) hf (j := i) (by omega) hm
  have hpar : par ts f (i + 1) = (a : Int) := by
    unfold par
    rw [typ_at hx, if_neg (by omega), ← hta, hl]
  have htake : (pth ts f i).take (j + 1) = pth ts f a := take_anc (pts ts f) (good_pts ts f) (by rw [pts_len]; omega) i i (Nat.le_refl _) (by omega) j _ ha
  refine ⟨hpar, by rw [pthI, ancI_nat]; exact htake, ?_⟩
  unfold nOf
  rw [hpar, pthI, ancI_nat]
  change (pth ts f a).length = _
  rw [← htake, List.length_take]
  have := (List.getElem?_eq_some_iff.1 ha).1
  omega
end Go.Proofs.YtbdpceigmnpoaaaGreatDoor.Code

/- plain: items and keys, as the program asks. -/
set_option linter.unusedSimpArgs false
set_option linter.unusedVariables false
namespace Go.Proofs.YtbdpceigmnpoaaaGreatDoor.Code
open Go.Proofs.YtbdpceigmnpoaaaGreatDoor.Ev

def bItems (f : List Item) : Blk := ⟨0, true, 26, 1, [[eItems f]]⟩
def bI (n : Int) : Blk := ⟨0, true, 3, 1, [[.int .i64 n]]⟩
def bItem (x : Item) : Blk := ⟨0, true, 55, 2, [rItem x]⟩
theorem fits_none {ts : List Ty} {x : Item} (h : ¬ (0 ≤ x.type ∧ x.type < ts.length)) : fits ts x = false := by
  unfold fits
  split
  · rename_i t ht
    have := (List.getElem?_eq_some_iff.1 ht).1
    rw [decide_eq_false (by omega)]; rfl
  · rfl
theorem fits_at {ts : List Ty} {x : Item} {k : Nat} {t : Ty} (hk : x.type = (k : Int)) (ht : ts[k]? = some t) : fits ts x = (decide (t.min ≤ (x.data.size : Int)) && decide ((x.data.size : Int) ≤ t.size)) := by
  simp [fits, hk, ht]
theorem f116 (b : Base) (x : Item) (H : Heap) : cal (evC cprog) false 116 [eBase b, .agg (rItem x)] H = some (.bool (fits b.types x), H) := by
  rw [cal_of at116]
  have hlen := (sTys [] b.types).len
  simp only [List.length_map] at hlen
  by_cases h1 : 0 ≤ x.type
  · by_cases h2 : x.type < (b.types.length : Int)
    · obtain ⟨k, hk⟩ : ∃ k : Nat, x.type = (k : Int) := ⟨x.type.toNat, by omega⟩
      obtain ⟨t, ht⟩ : ∃ t, b.types[k]? = some t := ⟨_, List.getElem?_eq_getElem (by omega)⟩
      have hat := aTy ht
      have k1 : (0 : Int) ≤ (k : Int) := by omega
      have k2 : (k : Int) < (b.types.length : Int) := by omega
      rw [fits_at hk ht]
      simp only [c116, eBase, rItem, rTy, hk, k1, k2, hlen, hat, evX, Int.reduceEq, Int.reduceLT, Int.reduceLE, Nat.reduceMul, Nat.reduceMod, evW, fn_eq, evR, Nat.reduceAdd, Nat.reduceLT, Nat.reduceLeDiff, reduceIte, Nat.reduceEqDiff, reduceCtorEq, argEnv, eq_self, if_true, if_false]
      repeat' ((first | rw [guardK_cases] | rw [condK_bool] | rw [guardD_cases]); split <;> simp only [c116, eBase, rItem, rTy, hk, k1, k2, hlen, hat, evX, Int.reduceEq, Int.reduceLT, Int.reduceLE, Nat.reduceMul, Nat.reduceMod, evW, evR, Nat.reduceAdd, Nat.reduceLT, Nat.reduceLeDiff, reduceIte, Nat.reduceEqDiff, reduceCtorEq, argEnv, eq_self, if_true, if_false, *])
      all_goals simp_all
    · rw [fits_none (by omega)]
      simp only [c116, eBase, rItem, h1, h2, hlen, evX, Int.reduceEq, Int.reduceLT, Int.reduceLE, Nat.reduceMul, Nat.reduceMod, evW, fn_eq, evR, Nat.reduceAdd, Nat.reduceLT, Nat.reduceLeDiff, reduceIte, Nat.reduceEqDiff, reduceCtorEq, argEnv, eq_self, if_true, if_false]
  · rw [fits_none (by omega)]
    simp only [c116, eBase, rItem, h1, evX, Int.reduceEq, Int.reduceLT, Int.reduceLE, Nat.reduceMul, Nat.reduceMod, evW, fn_eq, evR, Nat.reduceAdd, Nat.reduceLT, Nat.reduceLeDiff, reduceIte, Nat.reduceEqDiff, reduceCtorEq, argEnv, eq_self, if_true, if_false]
/-- a key is within the data -/
theorem key_in {t : Ty} (ht : tyOk t = true) (hk : 0 ≤ t.key) : ∃ (k : Nat) (f : Fd), t.key = (k : Int) ∧ t.fields[k]? = some f ∧ 0 ≤ f.at' ∧ 1 ≤ f.bytes ∧ f.at' + f.bytes ≤ t.min ∧ t.min ≤ 40 := by
  simp only [tyOk, Bool.and_eq_true] at ht
  obtain ⟨⟨⟨_, h1⟩, h2⟩, h3⟩ := ht
  simp only [sizeOk, Bool.and_eq_true, decide_eq_true_eq] at h1
  rcases key_cases t with h | h | h | ⟨k, f, h4, h5⟩
  · omega
  · omega
  · rw [key_far h] at h3; cases h3
  · rw [key_at h4 h5] at h3
    have := of_decide_eq_true h3
    have := fld_of h2 h5
    exact ⟨k, f, h4, h5, by omega, by omega, by omega, by omega⟩
theorem keyOf_at {t : Ty} {k : Nat} {f : Fd} (hk : t.key = (k : Int)) (hf : t.fields[k]? = some f) (d : ByteArray) : keyOf t d = d.extract f.at'.toNat (f.at' + f.bytes).toNat := by
  unfold keyOf
  rw [if_neg (by omega), hk, Int.toNat_natCast, hf]
theorem slcs_at (d : ByteArray) {a c : Int} (h1 : 0 ≤ a) (h2 : a ≤ c) (h3 : c ≤ d.size) : evSlcs d (some a.toNat) (some c.toNat) = some (.str (d.extract a.toNat c.toNat)) := by
  simp only [evSlcs, Option.getD_some]
  rw [if_pos (by omega)]
theorem asNat_int {a : Int} (h : 0 ≤ a) (k : IntKind) : asNat (.int k a) = some a.toNat := by simp [asNat, h]
def slcsK (x : Option AV) (lo hi : Option (Option Nat)) : Option AV :=
  match x, lo, hi with
  | some (.str s), some l, some h => evSlcs s l h
  | _, _, _ => none
theorem p_slcs {call : Nat → List AV → Heap → Option (AV × Heap)} (T : Env) (H : Heap) (x : COpd) (lo hi : Option COpd) : evOp call T H (.slcs x lo hi) = pureK H (slcsK (evOpd T x) (evNat T lo) (evNat T hi)) := evOp_pureK rfl
theorem slcsK_some (s : ByteArray) (l h : Option Nat) : slcsK (some (.str s)) (some l) (some h) = evSlcs s l h := rfl
theorem f149 (t : Ty) (ht : tyOk t = true) (d : ByteArray) (hd : t.min ≤ d.size) (H : Heap) : cal (evC cprog) false 149 [.agg (rTy t), .str d] H = some (.str (keyOf t d), H) := by
  rw [cal_of at149]
  by_cases hk : t.key < 0
  · simp only [c149, rTy, hk, evX, Int.reduceEq, Int.reduceLT, Int.reduceLE, Nat.reduceMul, Nat.reduceMod, evW, fn_eq, evR, Nat.reduceAdd, Nat.reduceLT, Nat.reduceLeDiff, reduceIte, Nat.reduceEqDiff, reduceCtorEq, argEnv, eq_self, if_true, if_false]
    simp [keyOf, hk]
  · obtain ⟨k, f, h1, h2, h3, h4, h5, h6⟩ := key_in ht (by omega)
    have haf := aFd h2
    have hw := wrapQ (a := f.at') (b := f.bytes) (by omega) (by omega) (by omega) (by omega)
    have k0 : ¬ (k : Int) < 0 := by omega
    have hsl := slcs_at d (a := f.at') (c := f.at' + f.bytes) h3 (by omega) (by omega)
    rw [keyOf_at h1 h2]
    simp only [c149, rTy, rFd, h1, k0, haf, hw, p_slcs, slcsK_some, asNat_int h3, asNat_int (show 0 ≤ f.at' + f.bytes by omega), hsl, evX, Int.reduceEq, Int.reduceLT, Int.reduceLE, Nat.reduceMul, Nat.reduceMod, evW, fn_eq, evR, Nat.reduceAdd, Nat.reduceLT, Nat.reduceLeDiff, reduceIte, Nat.reduceEqDiff, reduceCtorEq, argEnv, eq_self, if_true, if_false]
theorem f118 (t : Ty) (ht : tyOk t = true) (d e : ByteArray) (hd : t.min ≤ d.size) (he : t.min ≤ e.size) (H : Heap) : cal (evC cprog) false 118 [.agg (rTy t), .str d, .str e] H = some (.bool (inOrd t d e), H) := by
  rw [cal_of at118]
  by_cases hk : t.key < 0
  · simp only [c118, rTy, hk, evX, Int.reduceEq, Int.reduceLT, Int.reduceLE, Nat.reduceMul, Nat.reduceMod, evW, fn_eq, evR, Nat.reduceAdd, Nat.reduceLT, Nat.reduceLeDiff, reduceIte, Nat.reduceEqDiff, reduceCtorEq, argEnv, eq_self, if_true, if_false]
    simp [inOrd, hk]
  · have h1 := f149 t ht d hd
    have h2 := f149 t ht e he
    simp only [rTy] at h1 h2
    simp only [c118, rTy, hk, h1, h2, evX, Int.reduceEq, Int.reduceLT, Int.reduceLE, Nat.reduceMul, Nat.reduceMod, evW, fn_eq, evR, Nat.reduceAdd, Nat.reduceLT, Nat.reduceLeDiff, reduceIte, Nat.reduceEqDiff, reduceCtorEq, argEnv, eq_self, if_true, if_false]
    repeat' ((first | rw [guardK_cases] | rw [condK_bool] | rw [guardD_cases]); split <;> simp only [c118, rTy, hk, h1, h2, evX, Int.reduceEq, Int.reduceLT, Int.reduceLE, Nat.reduceMul, Nat.reduceMod, evW, evR, Nat.reduceAdd, Nat.reduceLT, Nat.reduceLeDiff, reduceIte, Nat.reduceEqDiff, reduceCtorEq, argEnv, eq_self, if_true, if_false, *])
    all_goals (cases h3 : t.unique <;> simp_all [inOrd])
theorem f117 (f : List Item) (p : Int) (k : Nat) (hk : k < f.length) (b1 b2 : Nat) (H : Heap) (h1 : Sits H b1 (bItems f)) (h2 : Sits H b2 (bI p)) : cal (evC cprog) false 117 [.int .i64 (k : Int), .ptr b1 0 1 0 0, .ptr b2 0 1 0 0] H = some (.bool (decide (typ f (k : Int) = p)), H) := by
  rw [cal_of at117]
  obtain ⟨x, hx⟩ : ∃ x, f[k]? = some x := ⟨_, List.getElem?_eq_getElem hk⟩
  have ha := aItem hx
  have g1 := h1.at
  have g2 := h2.at
  simp only [bItems, bI] at g1 g2
  rw [typ_at hx]
  simp only [c117, ha, g1, g2, rItem, evX, Int.reduceEq, Int.reduceLT, Int.reduceLE, Nat.reduceMul, Nat.reduceMod, evW, fn_eq, evR, Nat.reduceAdd, Nat.reduceLT, Nat.reduceLeDiff, reduceIte, Nat.reduceEqDiff, reduceCtorEq, argEnv, eq_self, if_true, if_false]
end Go.Proofs.YtbdpceigmnpoaaaGreatDoor.Code

/- plain: which lists are forests, as the program asks. -/
set_option linter.unusedSimpArgs false
set_option linter.unusedVariables false
namespace Go.Proofs.YtbdpceigmnpoaaaGreatDoor.Code
open Go.Proofs.YtbdpceigmnpoaaaGreatDoor.Ev

theorem idxOf_cases {α : Type} (p : α → Bool) (l : List α) : (idxOf p l = -1 ∧ ∀ a ∈ l, p a = false) ∨ ∃ (m : Nat) (a : α), idxOf p l = (m : Int) ∧ l[m]? = some a ∧ p a = true := by
  unfold idxOf
  cases h : l.findIdx? p with
  | none => exact .inl ⟨rfl, List.findIdx?_eq_none_iff.1 h⟩
  | some m =>
    obtain ⟨h1, h2, _⟩ := List.findIdx?_eq_some_iff_getElem.1 h
    exact .inr ⟨m, l[m], rfl, List.getElem?_eq_getElem h1, h2⟩
theorem forest_bad {ts : List Ty} {f : List Item} {i : Nat} {x : Item} (hx : f[i]? = some x) (h : okAt ts f i x = false) : tell (∀ (i : Nat) (x : Item), f[i]? = some x → okAt ts f i x = true) = false := tell_neg fun h' => by
  rw [h' i x hx] at h; cases h
theorem way_len (ts : List Ty) (f : List Item) (i : Nat) : (way ts f i).length ≤ i := wayTo_len _ i
theorem way_bound {ts : List Ty} {f : List Item} {i : Nat} {a : Int} (h : a ∈ way ts f i) : 0 ≤ a ∧ a < (i : Int) := by
  cases i with
  | zero => cases h
  | succ i => have := pth_bound (ts := ts) (f := f) (i := i) h; omega
theorem cut_two {H X : Heap} {rvw rvl : AV} {w : List Int} (hw : Out H.length 1 3 X rvw (w.map rI)) (hl : Out H.length 1 3 X rvl ((w ++ [-1]).map rI)) (hd : oblk rvw = none ∨ oblk rvw ≠ oblk rvl) (hne : oblk rvl ≠ none) (i : Int) (hwl : w.length ≤ 1000) (n : Nat) (hn : n ≤ w.length) (Y : Heap) :
    ∃ sv1 sv2 rvw' rvl' X1 X2, sv1.isTup = false ∧ sv2.isTup = false ∧ (∀ Z, evSlc Z 1 rvw none (some n) none = some sv1) ∧ (∀ Z, evSlc Z 1 rvl none (some n) none = some sv2) ∧
      appK 3 1 8 false (H ++ (X ++ Y)) (some sv1) (some (.lst [[.int .i64 i]])) = some (rvw', H ++ X1) ∧ appK 3 1 8 false (H ++ X1) (some sv2) (some (.lst [[.int .i64 i], [.int .i64 (-1)]])) = some (rvl', H ++ X2) ∧
      rvw'.isTup = false ∧ rvl'.isTup = false ∧ Out H.length 1 3 X2 rvw' ((w.take n ++ [i]).map rI) ∧ Out H.length 1 3 X2 rvl' (((w.take n ++ [i]) ++ [-1]).map rI) ∧ (oblk rvw' = none ∨ oblk rvw' ≠ oblk rvl') ∧ oblk rvl' ≠ none := by
  obtain ⟨sv1, a1, a2, a3⟩ := hw.cut2 H rfl (k := n) (by simpa using hn)
  obtain ⟨rvw', X1, b1, b2, b3, b4, b5⟩ := a3 Y 8 (.lst [[.int .i64 i]]) [[.int .i64 i]] (by simp) rfl rfl (by simp [reach]; omega) (by simp [reach]; omega)
  have hl' : oblk rvl = none ∨ oblk rvl ≠ oblk rvw := .inr fun e => by rcases hd with hd | hd; (· exact hne (e.trans hd)); exact hd e.symm
  have hl1 := b4.out (hl.more Y) hl'
  have hap := b5.apart hl hl'
  obtain ⟨sv2, c1, c2, c3⟩ := hl1.cut2 H rfl (k := n) (by simp; omega)
  obtain ⟨rvl', X2, d1, d2, d3, d4, d5⟩ := c3 [] 8 (.lst [[.int .i64 i], [.int .i64 (-1)]]) [[.int .i64 i], [.int .i64 (-1)]] (by simp) rfl rfl (by simp [reach]; omega) (by simp [reach]; omega)
  simp only [List.append_nil] at d1 d4
  have hb : oblk rvw' = none ∨ oblk rvw' ≠ oblk rvl := .inr fun e => by rcases hap with h | h; (· exact hne h); exact h e.symm
  have hw2 := d4.out b3 hb
  have hap2 := d5.apart b3 hb
  refine ⟨sv1, sv2, rvw', rvl', X1, X2, a1, c1, a2, c2, b1, d1, b2, d2, ?_, ?_, hap2, ?_⟩
  · simpa [List.map_take, rI] using hw2
  · have e : List.take n (w ++ [-1]) = List.take n w := List.take_append_of_le_length hn
    rw [← List.map_take, e] at d3
    simpa [rI] using d3
  · rcases d5 with ⟨h1, h2⟩ | ⟨m, _, h⟩
    · rw [h2]; exact h1
    · rw [h]; simp
theorem bad_sib {ts : List Ty} {f : List Item} {i : Nat} {x : Item} (h : sibOk ts f i x = false) : okAt ts f i x = false := by simp [okAt, h]
set_option maxHeartbeats 2000000 in
theorem l76 (b : Base) (ht : tysOk b.types = true) (f : List Item) (h200 : f.length ≤ 200) (H : Heap) (b1 b2 : Nat) (hs1 : Sits H b1 (bBase b)) (hs2 : Sits H b2 (bItems f)) (X0 : Heap) (rv0 : AV) (hO0 : Out H.length 1 3 X0 rv0 ([-1].map rI)) (hn0 : oblk rv0 ≠ none) (st : St)
    (hE : keepEnv st.1 [2, 3, 5, 6, 16, 17, 18] = [(2, .ptr b1 0 4 0 0), (3, .ptr b2 0 1 0 0), (5, .nils), (6, rv0), (16, eItems f), (17, .int .i64 (f.length : Int)), (18, .int .i64 0)]) (hH : st.2 = H ++ X0) (z : Option (CX × St)) (hz : itLim (evCode (evC cprog) itLim c76_l0) st = z) :
    ∃ c T X, z = some (c, T, H ++ X) ∧ ((tell (∀ (i : Nat) (x : Item), f[i]? = some x → okAt b.types f i x = true) = true ∧ c = .exit 0) ∨ (tell (∀ (i : Nat) (x : Item), f[i]? = some x → okAt b.types f i x = true) = false ∧ c = .ret ∧ get T 4 = some (.bool false))) := by
  have L := loop_rule (σ := Nat × Heap × AV × AV) (m := [2, 3, 5, 6, 16, 17, 18]) (env := fun s => [(2, .ptr b1 0 4 0 0), (3, .ptr b2 0 1 0 0), (5, s.2.2.1), (6, s.2.2.2), (16, eItems f), (17, .int .i64 (f.length : Int)), (18, .int .i64 (s.1 : Int))]) (hp := fun s => H ++ s.2.1)
    (P := fun s r => ∃ c T X, r = (c, T, H ++ X) ∧ ((tell (∀ (i : Nat) (x : Item), f[i]? = some x → okAt b.types f i x = true) = true ∧ c = .exit 0) ∨ (tell (∀ (i : Nat) (x : Item), f[i]? = some x → okAt b.types f i x = true) = false ∧ c = .ret ∧ get T 4 = some (.bool false))))
    (mu := fun s => f.length - s.1) (I := fun s => s.1 ≤ f.length ∧ FOk b.types f s.1 ∧ Out H.length 1 3 s.2.1 s.2.2.1 ((way b.types f s.1).map rI) ∧ Out H.length 1 3 s.2.1 s.2.2.2 ((way b.types f s.1 ++ [-1]).map rI) ∧ (oblk s.2.2.1 = none ∨ oblk s.2.2.1 ≠ oblk s.2.2.2) ∧ oblk s.2.2.2 ≠ none)
    (evCode (evC cprog) itLim c76_l0) ?_ (0, X0, .nils, rv0) st ⟨by simp, fun j x h => by simp at h, .nils .., hO0, .inl rfl, hn0⟩ hE hH z hz
  · obtain ⟨r, rfl, c, T, X, rfl, h⟩ := L
    exact ⟨c, T, X, rfl, h⟩
  · intro ⟨i, X, rvw, rvl⟩ ⟨hi, hf, hw, hl, hd, hne⟩ E hE
    simp only at hi hf hw hl hd hne hE ⊢
    by_cases hlt : i < f.length
    · obtain ⟨x, hx⟩ : ∃ x, f[i]? = some x := ⟨_, List.getElem?_eq_getElem hlt⟩
      have hi1 : (i : Int) < (f.length : Int) := by omega
      have ha := aItem hx
      have h42 := f116 b x
      have hs := hs1
      have hs' := hs2
      simp only [bBase, bItems, Sits] at hs hs'
      simp only [eBase, rItem] at h42
      have hwl := way_len b.types f i
      cases hft : fits b.types x with
      | false =>
        simp only [c76_l0, hE, hi1, ha, hs, hs', h42, hft, rItem, evX, Int.reduceEq, Int.reduceLT, Int.reduceLE, Nat.reduceMul, Nat.reduceMod, evW, fn_eq, evR, Nat.reduceAdd, Nat.reduceLT, Nat.reduceLeDiff, reduceIte, Nat.reduceEqDiff, reduceCtorEq, argEnv, eq_self, if_true, if_false]
        exact q_ret ⟨_, _, _, rfl, .inr ⟨forest_bad hx (by simp [okAt, hft]), rfl, by rfl⟩⟩
      | true =>
        obtain ⟨k, t, hk, hkl, htk, hmin, hmax⟩ := fits_some hft
        have hat := aTy htk
        rw [← hk] at hat
        have hxt := typ_at hx
        have hpt : tpar b.types x.type = t.parent := by rw [hk, tpar_at htk]
        have hty : tyOk t = true := by have := tell_true.1 ht k t htk; simp only [tyAt, Bool.and_eq_true] at this; exact this.1.1.1
        have htyo : tyOf b.types x.type = t := by rw [hk, tyOf_at htk]
        have hwi := wrapS hlt (by omega)
        -- what comes behind a place that was found
        have fin : ∀ (n : Nat), n ≤ (way b.types f i).length → ∃ p kk, iaddrK 1 (some rvl) (some (.int .i64 (n : Int))) = some p ∧ (∀ Y, loadK false 1 (H ++ (X ++ Y)) (some p) = some (.int .i64 kk)) ∧ (kk = -1 ∧ (way b.types f i)[n]? = none ∨ ∃ a y, kk = ((a : Nat) : Int) ∧ (way b.types f i)[n]? = some kk ∧ f[a]? = some y ∧ a < i) := fun n hn => by
          have hsl := out_slat hl H rfl (fun r hr => by obtain ⟨n, _, rfl⟩ := List.mem_map.1 hr; rfl)
          by_cases e : n < (way b.types f i).length
          · obtain ⟨kk, hkk⟩ : ∃ kk, (way b.types f i)[n]? = some kk := ⟨_, List.getElem?_eq_getElem e⟩
            have hb := way_bound (List.mem_of_getElem? hkk)
            obtain ⟨_, p, g1, g2⟩ := hsl.get n (rI kk) (by rw [List.getElem?_map, List.getElem?_append_left e, hkk]; rfl)
            exact ⟨p, kk, g1, fun Y => by rw [← List.append_assoc]; exact g2.onex Y, .inr ⟨kk.toNat, _, by omega, hkk, List.getElem?_eq_getElem (by omega), by omega⟩⟩
          · obtain rfl : n = (way b.types f i).length := by omega
            obtain ⟨_, p, g1, g2⟩ := hsl.get (way b.types f i).length (rI (-1)) (by rw [List.getElem?_map, List.getElem?_append_right (by omega)]; simp)
            exact ⟨p, -1, g1, fun Y => by rw [← List.append_assoc]; exact g2.onex Y, .inl ⟨rfl, List.getElem?_eq_none (Nat.le_refl _)⟩⟩
        have done : ∀ (n : Nat), nOf b.types f i = n → pth b.types f i = (way b.types f i).take n ++ [(i : Int)] → (decide (tpar b.types x.type < 0) || tell (par b.types f i ∈ way b.types f i)) = true → sibOk b.types f i x = true → FOk b.types f (i + 1) ∧ way b.types f (i + 1) = (way b.types f i).take n ++ [(i : Int)] := fun n h1 h2 h3 h4 => by
          refine ⟨fun j y hj hy => ?_, h2⟩
          by_cases e : j < i
          · exact hf j y e hy
          · obtain rfl : j = i := by omega
            rw [hx] at hy; cases hy
            simp only [okAt, hft, h3, h4, Bool.and_self]
        have sibN : ∀ (n : Nat), nOf b.types f i = n → (way b.types f i)[n]? = none → sibOk b.types f i x = true := fun n h1 h2 => by simp only [sibOk, h1, h2]
        have sibS : ∀ (n : Nat) (a : Int), nOf b.types f i = n → (way b.types f i)[n]? = some a → sibOk b.types f i x = ordOk b.types f a x := fun n a h1 h2 => by simp only [sibOk, h1, h2]
        by_cases hp : t.parent < 0
        · have hp' : ¬ 0 ≤ t.parent := by omega
          have hpar : par b.types f i = -1 := by unfold par; rw [hxt, hpt, if_pos hp]
          have hnof : nOf b.types f i = 0 := by unfold nOf pthI; rw [hpar, ancI_neg _ (by omega)]; rfl
          have hpth : pth b.types f i = (way b.types f i).take 0 ++ [(i : Int)] := by rw [pth_eq _ _ hlt, hpar, pthI, ancI_neg _ (by omega)]; rfl
          have hpok : (decide (tpar b.types x.type < 0) || tell (par b.types f i ∈ way b.types f i)) = true := by rw [hpt, decide_eq_true hp]; rfl
          obtain ⟨p, kk, hp1, hp2, hkk⟩ := fin 0 (Nat.zero_le _)
          obtain ⟨sv1, sv2, rvw', rvl', X1, X2, e1, e2, e3, e4, e5, e6, e7, e8, e9, e10, e11, e12⟩ := cut_two hw hl hd hne (i : Int) (by omega) 0 (Nat.zero_le _) [bItem x, bI t.parent]
          simp only [bItem, bI, rItem] at e5
          simp only [Int.natCast_zero] at hp1
          rcases hkk with ⟨rfl, hkn⟩ | ⟨a, y, rfl, hks, hy, hai⟩
          · have hdn := done 0 hnof hpth hpok (sibN 0 hnof hkn)
            simp only [c76_l0, hE, hi1, ha, hs, hs', h42, hft, hat, rItem, rTy, hp', hp1, hp2, e1, e2, e3, e4, e5, e6, e7, e8, hwi, evX, Int.reduceEq, Int.reduceLT, Int.reduceLE, Nat.reduceMul, Nat.reduceMod, evW, fn_eq, evR, Nat.reduceAdd, Nat.reduceLT, Nat.reduceLeDiff, reduceIte, Nat.reduceEqDiff, reduceCtorEq, argEnv, eq_self, if_true, if_false]
            exact q_next (i + 1, X2, rvw', rvl') (by rfl) rfl ⟨by omega, hdn.1, by rw [hdn.2]; exact e9, by rw [hdn.2]; exact e10, e11, e12⟩ (by simp only; omega) fun r h => h
          · have hya := aItem hy
            have a0 : (0 : Int) ≤ (a : Int) := by omega
            have hyt := typ_at hy
            have hyd := dat_at hy
            have hsib := sibS 0 (a : Int) hnof hks
            simp only [ordOk, hyt, hyd, htyo] at hsib
            by_cases o1 : x.type < y.type
            · simp only [c76_l0, hE, hi1, ha, hs, hs', h42, hft, hat, rItem, rTy, hp', hp1, hp2, a0, hya, o1, evX, Int.reduceEq, Int.reduceLT, Int.reduceLE, Nat.reduceMul, Nat.reduceMod, evW, fn_eq, evR, Nat.reduceAdd, Nat.reduceLT, Nat.reduceLeDiff, reduceIte, Nat.reduceEqDiff, reduceCtorEq, argEnv, eq_self, if_true, if_false]
              exact q_ret ⟨_, _, _, rfl, .inr ⟨forest_bad hx (bad_sib (by rw [hsib, decide_eq_false (show ¬ y.type < x.type by omega), decide_eq_false (show ¬ y.type = x.type by omega)]; rfl)), rfl, by rfl⟩⟩
            by_cases o2 : y.type = x.type
            · have hfy := fits_some (ok_fits (hf a y hai hy))
              obtain ⟨k', t', q1, _, q2, q3, _⟩ := hfy
              obtain rfl : k' = k := by omega
              rw [htk] at q2; cases q2
              have h59 := f118 t hty y.data x.data q3 hmin
              simp only [rTy] at h59
              have o0 : ¬ x.type < x.type := by omega
              cases o3 : inOrd t y.data x.data with
              | false =>
                simp only [c76_l0, hE, hi1, ha, hs, hs', h42, hft, hat, rItem, rTy, hp', hp1, hp2, a0, hya, o0, o2, h59, o3, evX, Int.reduceEq, Int.reduceLT, Int.reduceLE, Nat.reduceMul, Nat.reduceMod, evW, fn_eq, evR, Nat.reduceAdd, Nat.reduceLT, Nat.reduceLeDiff, reduceIte, Nat.reduceEqDiff, reduceCtorEq, argEnv, eq_self, if_true, if_false]
                exact q_ret ⟨_, _, _, rfl, .inr ⟨forest_bad hx (bad_sib (by rw [hsib, o3, decide_eq_false (show ¬ y.type < x.type by omega)]; simp)), rfl, by rfl⟩⟩
              | true =>
                rw [o2, o3] at hsib
                have hdn := done 0 hnof hpth hpok (by rw [hsib]; simp)
                simp only [c76_l0, hE, hi1, ha, hs, hs', h42, hft, hat, rItem, rTy, hp', hp1, hp2, a0, hya, o0, o2, h59, o3, e1, e2, e3, e4, e5, e6, e7, e8, hwi, evX, Int.reduceEq, Int.reduceLT, Int.reduceLE, Nat.reduceMul, Nat.reduceMod, evW, fn_eq, evR, Nat.reduceAdd, Nat.reduceLT, Nat.reduceLeDiff, reduceIte, Nat.reduceEqDiff, reduceCtorEq, argEnv, eq_self, if_true, if_false]
                exact q_next (i + 1, X2, rvw', rvl') (by rfl) rfl ⟨by omega, hdn.1, by rw [hdn.2]; exact e9, by rw [hdn.2]; exact e10, e11, e12⟩ (by simp only; omega) fun r h => h
            · have hdn := done 0 hnof hpth hpok (by rw [hsib, decide_eq_true (by omega)]; rfl)
              simp only [c76_l0, hE, hi1, ha, hs, hs', h42, hft, hat, rItem, rTy, hp', hp1, hp2, a0, hya, o1, o2, e1, e2, e3, e4, e5, e6, e7, e8, hwi, evX, Int.reduceEq, Int.reduceLT, Int.reduceLE, Nat.reduceMul, Nat.reduceMod, evW, fn_eq, evR, Nat.reduceAdd, Nat.reduceLT, Nat.reduceLeDiff, reduceIte, Nat.reduceEqDiff, reduceCtorEq, argEnv, eq_self, if_true, if_false]
              exact q_next (i + 1, X2, rvw', rvl') (by rfl) rfl ⟨by omega, hdn.1, by rw [hdn.2]; exact e9, by rw [hdn.2]; exact e10, e11, e12⟩ (by simp only; omega) fun r h => h
        · have hp' : 0 ≤ t.parent := by omega
          have hway := out_slat (hw.more [bItem x, bI t.parent]) H rfl (fun r hr => by obtain ⟨n, _, rfl⟩ := List.mem_map.1 hr; rfl)
          have hidx := indexFunc_ok (sz := 1) (ag := false) at107 rI (fun a => .int .i64 a) lI 117 [.ptr b2 0 1 0 0, .ptr (H.length + (X.length + 1)) 0 1 0 0] (fun a => decide (typ f a = t.parent)) (H ++ (X ++ [bItem x, bI t.parent])) rvw (way b.types f i) hway (by omega) (fun a ham => by
            have hb := way_bound ham
            obtain ⟨a, rfl⟩ : ∃ a' : Nat, a = (a' : Int) := ⟨a.toNat, by omega⟩
            exact f117 f t.parent a (by omega) b2 _ _ (fun Z => by rw [List.append_assoc]; exact hs2 _) (.mk (by simp)))
          simp only [bItem, bI, rItem] at hidx
          rcases idxOf_cases (fun a => decide (typ f a = t.parent)) (way b.types f i) with ⟨h1, h2⟩ | ⟨m, a, h1, h2, h3⟩
          · rw [h1] at hidx
            have w0 : IntKind.i64.wrap (1 + -1) = 0 := by rfl
            simp only [c76_l0, hE, hi1, ha, hs, hs', h42, hft, hat, rItem, rTy, hp', hidx, w0, evX, Int.reduceEq, Int.reduceLT, Int.reduceLE, Nat.reduceMul, Nat.reduceMod, evW, fn_eq, evR, Nat.reduceAdd, Nat.reduceLT, Nat.reduceLeDiff, reduceIte, Nat.reduceEqDiff, reduceCtorEq, argEnv, eq_self, if_true, if_false]
            refine q_ret ⟨_, _, _, rfl, .inr ⟨forest_bad hx ?_, rfl, by rfl⟩⟩
            have hno : par b.types f i ∉ way b.types f i := fun hm => by
              have hb := way_bound hm
              have := (par_typ (ts := b.types) (f := f) (i := i) hb.1).1
              rw [hxt, hpt] at this
              have h4 := h2 _ hm
              simp [this] at h4
            rw [okAt, hpt, decide_eq_false (by omega), tell_neg hno]; simp
          · have h3 := of_decide_eq_true h3
            have hm0 := way_bound (List.mem_of_getElem? h2)
            obtain ⟨g1, g2, hnof⟩ := par_way ht hlt hf hx (by rw [hpt]; omega) m a h2 (by rw [hpt]; exact h3)
            have hml := (List.getElem?_eq_some_iff.1 h2).1
            have hpth : pth b.types f i = (way b.types f i).take (m + 1) ++ [(i : Int)] := by rw [pth_eq _ _ hlt, g1, g2]
            have hpok : (decide (tpar b.types x.type < 0) || tell (par b.types f i ∈ way b.types f i)) = true := by rw [g1, tell_pos (List.mem_of_getElem? h2)]; simp
            have hwm : IntKind.i64.wrap (1 + (m : Int)) = ((m + 1 : Nat) : Int) := by rw [wrap_i64 (by omega) (by omega)]; omega
            have hm1 : decide (((m + 1 : Nat) : Int) = 0) = false := decide_eq_false (by omega)
            rw [h1] at hidx
            obtain ⟨p, kk, hp1, hp2, hkk⟩ := fin (m + 1) (by omega)
            obtain ⟨sv1, sv2, rvw', rvl', X1, X2, e1, e2, e3, e4, e5, e6, e7, e8, e9, e10, e11, e12⟩ := cut_two hw hl hd hne (i : Int) (by omega) (m + 1) (by omega) [bItem x, bI t.parent]
            simp only [bItem, bI, rItem] at e5
            rcases hkk with ⟨rfl, hkn⟩ | ⟨a, y, rfl, hks, hy, hai⟩
            · have hdn := done (m + 1) hnof hpth hpok (sibN (m + 1) hnof hkn)
              simp only [c76_l0, hE, hi1, ha, hs, hs', h42, hft, hat, rItem, rTy, hp', hidx, hwm, hm1, hp1, hp2, e1, e2, e3, e4, e5, e6, e7, e8, hwi, evX, Int.reduceEq, Int.reduceLT, Int.reduceLE, Nat.reduceMul, Nat.reduceMod, evW, fn_eq, evR, Nat.reduceAdd, Nat.reduceLT, Nat.reduceLeDiff, reduceIte, Nat.reduceEqDiff, reduceCtorEq, argEnv, eq_self, if_true, if_false]
              exact q_next (i + 1, X2, rvw', rvl') (by rfl) rfl ⟨by omega, hdn.1, by rw [hdn.2]; exact e9, by rw [hdn.2]; exact e10, e11, e12⟩ (by simp only; omega) fun r h => h
            · have hya := aItem hy
              have a0 : (0 : Int) ≤ (a : Int) := by omega
              have hyt := typ_at hy
              have hyd := dat_at hy
              have hsib := sibS (m + 1) (a : Int) hnof hks
              simp only [ordOk, hyt, hyd, htyo] at hsib
              by_cases o1 : x.type < y.type
              · simp only [c76_l0, hE, hi1, ha, hs, hs', h42, hft, hat, rItem, rTy, hp', hidx, hwm, hm1, hp1, hp2, a0, hya, o1, evX, Int.reduceEq, Int.reduceLT, Int.reduceLE, Nat.reduceMul, Nat.reduceMod, evW, fn_eq, evR, Nat.reduceAdd, Nat.reduceLT, Nat.reduceLeDiff, reduceIte, Nat.reduceEqDiff, reduceCtorEq, argEnv, eq_self, if_true, if_false]
                exact q_ret ⟨_, _, _, rfl, .inr ⟨forest_bad hx (bad_sib (by rw [hsib, decide_eq_false (show ¬ y.type < x.type by omega), decide_eq_false (show ¬ y.type = x.type by omega)]; rfl)), rfl, by rfl⟩⟩
              by_cases o2 : y.type = x.type
              · have hfy := fits_some (ok_fits (hf a y hai hy))
                obtain ⟨k', t', q1, _, q2, q3, _⟩ := hfy
                obtain rfl : k' = k := by omega
                rw [htk] at q2; cases q2
                have h59 := f118 t hty y.data x.data q3 hmin
                simp only [rTy] at h59
                have o0 : ¬ x.type < x.type := by omega
                cases o3 : inOrd t y.data x.data with
                | false =>
                  simp only [c76_l0, hE, hi1, ha, hs, hs', h42, hft, hat, rItem, rTy, hp', hidx, hwm, hm1, hp1, hp2, a0, hya, o0, o2, h59, o3, evX, Int.reduceEq, Int.reduceLT, Int.reduceLE, Nat.reduceMul, Nat.reduceMod, evW, fn_eq, evR, Nat.reduceAdd, Nat.reduceLT, Nat.reduceLeDiff, reduceIte, Nat.reduceEqDiff, reduceCtorEq, argEnv, eq_self, if_true, if_false]
                  exact q_ret ⟨_, _, _, rfl, .inr ⟨forest_bad hx (bad_sib (by rw [hsib, o3, decide_eq_false (show ¬ y.type < x.type by omega)]; simp)), rfl, by rfl⟩⟩
                | true =>
                  rw [o2, o3] at hsib
                  have hdn := done (m + 1) hnof hpth hpok (by rw [hsib]; simp)
                  simp only [c76_l0, hE, hi1, ha, hs, hs', h42, hft, hat, rItem, rTy, hp', hidx, hwm, hm1, hp1, hp2, a0, hya, o0, o2, h59, o3, e1, e2, e3, e4, e5, e6, e7, e8, hwi, evX, Int.reduceEq, Int.reduceLT, Int.reduceLE, Nat.reduceMul, Nat.reduceMod, evW, fn_eq, evR, Nat.reduceAdd, Nat.reduceLT, Nat.reduceLeDiff, reduceIte, Nat.reduceEqDiff, reduceCtorEq, argEnv, eq_self, if_true, if_false]
                  exact q_next (i + 1, X2, rvw', rvl') (by rfl) rfl ⟨by omega, hdn.1, by rw [hdn.2]; exact e9, by rw [hdn.2]; exact e10, e11, e12⟩ (by simp only; omega) fun r h => h
              · have hdn := done (m + 1) hnof hpth hpok (by rw [hsib, decide_eq_true (by omega)]; rfl)
                simp only [c76_l0, hE, hi1, ha, hs, hs', h42, hft, hat, rItem, rTy, hp', hidx, hwm, hm1, hp1, hp2, a0, hya, o1, o2, e1, e2, e3, e4, e5, e6, e7, e8, hwi, evX, Int.reduceEq, Int.reduceLT, Int.reduceLE, Nat.reduceMul, Nat.reduceMod, evW, fn_eq, evR, Nat.reduceAdd, Nat.reduceLT, Nat.reduceLeDiff, reduceIte, Nat.reduceEqDiff, reduceCtorEq, argEnv, eq_self, if_true, if_false]
                exact q_next (i + 1, X2, rvw', rvl') (by rfl) rfl ⟨by omega, hdn.1, by rw [hdn.2]; exact e9, by rw [hdn.2]; exact e10, e11, e12⟩ (by simp only; omega) fun r h => h
    · have hi1 : ¬ (i : Int) < (f.length : Int) := by omega
      simp only [c76_l0, hE, hi1, evX, Int.reduceEq, Int.reduceLT, Int.reduceLE, Nat.reduceMul, Nat.reduceMod, evW, fn_eq, evR, Nat.reduceAdd, Nat.reduceLT, Nat.reduceLeDiff, reduceIte, Nat.reduceEqDiff, reduceCtorEq, argEnv, eq_self, if_true, if_false]
      refine q_exit ⟨_, _, _, rfl, .inl ⟨tell_pos fun j y hy => hf j y ?_ hy, rfl⟩⟩
      have := (List.getElem?_eq_some_iff.1 hy).1; omega
end Go.Proofs.YtbdpceigmnpoaaaGreatDoor.Code

/- plain: Valid of the program; parents and keys of the document. -/
set_option linter.unusedSimpArgs false
set_option linter.unusedVariables false
namespace Go.Proofs.YtbdpceigmnpoaaaGreatDoor.Code
open Go.Proofs.YtbdpceigmnpoaaaGreatDoor.Ev

theorem cells_eItems (f : List Item) : (eItems f).cells = [eItems f] := rfl
theorem isTup_eItems (f : List Item) : (eItems f).isTup = false := rfl
theorem f76 (b : Base) (ht : tysOk b.types = true) (f : List Item) (H : Heap) : cal (evC cprog) false 76 [eBase b, eItems f] H = some (.bool (forestOk b.types f), H) := by
  rw [cal_of at76]
  have hlen := (sItems [] f).len
  simp only [List.length_map] at hlen
  by_cases h : (200 : Int) < (f.length : Int)
  · have hv : forestOk b.types f = false := by unfold forestOk; rw [decide_eq_false (by omega)]; rfl
    rw [hv]
    simp only [c76, eBase, hlen, h, cells_eItems, isTup_eItems, evX, Int.reduceEq, Int.reduceLT, Int.reduceLE, Nat.reduceMul, Nat.reduceMod, evW, fn_eq, evR, Nat.reduceAdd, Nat.reduceLT, Nat.reduceLeDiff, reduceIte, Nat.reduceEqDiff, reduceCtorEq, argEnv, eq_self, if_true, if_false]
  · have hv : forestOk b.types f = tell (∀ (i : Nat) (x : Item), f[i]? = some x → okAt b.types f i x = true) := by unfold forestOk; rw [decide_eq_true (by omega)]; rfl
    rw [hv]
    simp only [c76, eBase, hlen, h, cells_eItems, isTup_eItems, evX, Int.reduceEq, Int.reduceLT, Int.reduceLE, Nat.reduceMul, Nat.reduceMod, evW, fn_eq, evR, Nat.reduceAdd, Nat.reduceLT, Nat.reduceLeDiff, reduceIte, Nat.reduceEqDiff, reduceCtorEq, argEnv, eq_self, if_true, if_false]
    generalize hz : itLim _ _ = z
    obtain ⟨c, T, X, rfl, g⟩ := l76 b ht f (by omega) (H ++ [bBase b, bItems f]) H.length (H.length + 1) (.mk (by simp)) (.mk (by simp)) [bI (-1)] (.ref (H.length + 2) 0 1 0 1) (.inr ⟨by simp, 0, 0, by simp, by simp [bI, rI]⟩) (by simp [oblk]) _ (by rfl) (by simp [bBase, bItems, bI]) z hz
    rcases g with ⟨g, rfl⟩ | ⟨g, rfl, hT⟩
    · rw [g]
      simp only [hlen, evX, Int.reduceEq, Int.reduceLT, Int.reduceLE, Nat.reduceMul, Nat.reduceMod, evW, fn_eq, evR, Nat.reduceAdd, Nat.reduceLT, Nat.reduceLeDiff, reduceIte, Nat.reduceEqDiff, reduceCtorEq, argEnv, eq_self, if_true, if_false]
    · rw [g]
      simp only [hT, evX, Int.reduceEq, Int.reduceLT, Int.reduceLE, Nat.reduceMul, Nat.reduceMod, evW, fn_eq, evR, Nat.reduceAdd, Nat.reduceLT, Nat.reduceLeDiff, reduceIte, Nat.reduceEqDiff, reduceCtorEq, argEnv, eq_self, if_true, if_false]
def bEr (v : Bool) (e : Int) : AV := .tup [.bool v, .int .i64 e]
theorem valid_tys {b : Base} (h : validB b = true) : tysOk b.types = true := by
  simp only [validB, areTys, Bool.and_eq_true] at h
  exact h.1.1.2.2
theorem f41 (b : Base) (hb : b.Ok) (f : List Item) (H : Heap) : cal (evC cprog) false 41 [eBase b, eItems f] H = some (bEr (validB b && forestOk b.types f) (if validB b = true then 0 else 100), H) := by
  rw [cal_of at41]
  have h1 := f75 b hb
  simp only [eBase] at h1
  cases hv : validB b with
  | false =>
    simp only [c41, eBase, cells_eItems, isTup_eItems, h1, hv, bEr, evX, Int.reduceEq, Int.reduceLT, Int.reduceLE, Nat.reduceMul, Nat.reduceMod, evW, fn_eq, evR, Nat.reduceAdd, Nat.reduceLT, Nat.reduceLeDiff, reduceIte, Nat.reduceEqDiff, reduceCtorEq, argEnv, eq_self, if_true, if_false]
  | true =>
    have h2 := f76 b (valid_tys hv) f
    simp only [eBase] at h2
    simp only [c41, eBase, cells_eItems, isTup_eItems, h1, hv, h2, bEr, evX, Int.reduceEq, Int.reduceLT, Int.reduceLE, Nat.reduceMul, Nat.reduceMod, evW, fn_eq, evR, Nat.reduceAdd, Nat.reduceLT, Nat.reduceLeDiff, reduceIte, Nat.reduceEqDiff, reduceCtorEq, argEnv, eq_self, if_true, if_false]
theorem f89 (b : Base) (f : List Item) (i : Nat) (x : Item) (hx : f[i]? = some x) (k : Nat) (t : Ty) (hk : x.type = (k : Int)) (htk : b.types[k]? = some t) (hl : f.length ≤ 1000) (H : Heap) :
    cal (evC cprog) false 89 [eBase b, eItems f, .int .i64 (i : Int)] H = some (.int .i64 (par b.types f i), H) := by
  rw [cal_of at89]
  have hlt : i < f.length := (List.getElem?_eq_some_iff.1 hx).1
  have ha := aItem hx
  have hat := aTy htk
  rw [← hk] at hat
  have hp : par b.types f i = if t.parent < 0 then -1 else lastTo f t.parent i := by unfold par; rw [typ_at hx, hk, tpar_at htk]
  rw [hp]
  have hw : IntKind.i64.wrap ((i : Int) - 1) = (i : Int) - 1 := wrap_i64 (by omega) (by omega)
  simp only [c89, eBase, ha, hat, rItem, rTy, hw, evX, Int.reduceEq, Int.reduceLT, Int.reduceLE, Nat.reduceMul, Nat.reduceMod, evW, fn_eq, evR, Nat.reduceAdd, Nat.reduceLT, Nat.reduceLeDiff, reduceIte, Nat.reduceEqDiff, reduceCtorEq, argEnv, eq_self, if_true, if_false]
  generalize hz : itLim _ _ = z
  have L := loop_rule (σ := Int) (m := [1, 7, 8]) (env := fun k => [(1, eItems f), (7, .int .i64 t.parent), (8, .int .i64 k)]) (hp := fun _ => H ++ [bBase b])
    (P := fun k r => ∃ c T, r = (c, T, H ++ [bBase b]) ∧ ((c = .exit 0 ∧ (if t.parent < 0 then -1 else lastTo f t.parent (k + 1).toNat) = -1) ∨ (c = .ret ∧ get T 6 = some (.int .i64 (if t.parent < 0 then -1 else lastTo f t.parent (k + 1).toNat)))))
    (mu := fun k => (k + 1).toNat) (I := fun k => -1 ≤ k ∧ k < (i : Int)) (evCode (evC cprog) itLim c89_l0) ?_ ((i : Int) - 1) _ (by omega) (by rfl) (by simp [bBase]) z hz
  · obtain ⟨_, rfl, c, T, rfl, h⟩ := L
    rw [show ((i : Int) - 1 + 1).toNat = i by omega] at h
    rcases h with ⟨rfl, h⟩ | ⟨rfl, hT⟩
    · rw [h]
      simp only [evX, Int.reduceEq, Int.reduceLT, Int.reduceLE, Nat.reduceMul, Nat.reduceMod, evW, fn_eq, evR, Nat.reduceAdd, Nat.reduceLT, Nat.reduceLeDiff, reduceIte, Nat.reduceEqDiff, reduceCtorEq, argEnv, eq_self, if_true, if_false]
    · simp only [hT, evX, Int.reduceEq, Int.reduceLT, Int.reduceLE, Nat.reduceMul, Nat.reduceMod, evW, fn_eq, evR, Nat.reduceAdd, Nat.reduceLT, Nat.reduceLeDiff, reduceIte, Nat.reduceEqDiff, reduceCtorEq, argEnv, eq_self, if_true, if_false]
  · intro k ⟨h1, h2⟩ E hE
    by_cases h0 : 0 ≤ k
    · obtain ⟨j, rfl⟩ : ∃ j : Nat, k = (j : Int) := ⟨k.toNat, by omega⟩
      obtain ⟨y, hy⟩ : ∃ y, f[j]? = some y := ⟨_, List.getElem?_eq_getElem (by omega)⟩
      have hay := aItem hy
      have hwj : IntKind.i64.wrap ((j : Int) - 1) = (j : Int) - 1 := wrap_i64 (by omega) (by omega)
      have e : ((j : Int) + 1).toNat = j + 1 := by omega
      by_cases hp0 : 0 ≤ t.parent
      · by_cases hyt : y.type = t.parent
        · simp only [c89_l0, hE, h0, hp0, hay, hyt, rItem, evX, Int.reduceEq, Int.reduceLT, Int.reduceLE, Nat.reduceMul, Nat.reduceMod, evW, fn_eq, evR, Nat.reduceAdd, Nat.reduceLT, Nat.reduceLeDiff, reduceIte, Nat.reduceEqDiff, reduceCtorEq, argEnv, eq_self, if_true, if_false]
          refine q_ret ⟨_, _, rfl, .inr ⟨rfl, ?_⟩⟩
          rw [if_neg (by omega), e, lastTo, typ_at hy, if_pos hyt]; rfl
        · simp only [c89_l0, hE, h0, hp0, hay, hyt, hwj, rItem, evX, Int.reduceEq, Int.reduceLT, Int.reduceLE, Nat.reduceMul, Nat.reduceMod, evW, fn_eq, evR, Nat.reduceAdd, Nat.reduceLT, Nat.reduceLeDiff, reduceIte, Nat.reduceEqDiff, reduceCtorEq, argEnv, eq_self, if_true, if_false]
          refine q_next ((j : Int) - 1) (by rfl) rfl (by omega) (by omega) fun r h => ?_
          obtain ⟨c, T, h3, h⟩ := h
          refine ⟨c, T, h3, ?_⟩
          rw [e, lastTo, typ_at hy, if_neg hyt]
          rw [show ((j : Int) - 1 + 1).toNat = j by omega] at h
          exact h
      · simp only [c89_l0, hE, h0, hp0, evX, Int.reduceEq, Int.reduceLT, Int.reduceLE, Nat.reduceMul, Nat.reduceMod, evW, fn_eq, evR, Nat.reduceAdd, Nat.reduceLT, Nat.reduceLeDiff, reduceIte, Nat.reduceEqDiff, reduceCtorEq, argEnv, eq_self, if_true, if_false]
        exact q_exit ⟨_, _, rfl, .inl ⟨rfl, if_pos (by omega)⟩⟩
    · simp only [c89_l0, hE, h0, evX, Int.reduceEq, Int.reduceLT, Int.reduceLE, Nat.reduceMul, Nat.reduceMod, evW, fn_eq, evR, Nat.reduceAdd, Nat.reduceLT, Nat.reduceLeDiff, reduceIte, Nat.reduceEqDiff, reduceCtorEq, argEnv, eq_self, if_true, if_false]
      refine q_exit ⟨_, _, rfl, .inl ⟨rfl, ?_⟩⟩
      rw [show (k + 1).toNat = 0 by omega]
      simp [lastTo]
theorem f90 (b : Base) (x : Item) (k : Nat) (t : Ty) (hk : x.type = (k : Int)) (htk : b.types[k]? = some t) (ht : tyOk t = true) (hd : t.min ≤ x.data.size) (H : Heap) :
    cal (evC cprog) false 90 [eBase b, .agg (rItem x)] H = some (.str (keyOf t x.data), H) := by
  rw [cal_of at90]
  have hat := aTy htk
  rw [← hk] at hat
  by_cases hk : t.key < 0
  · simp only [c90, eBase, rItem, rTy, hat, hk, evX, Int.reduceEq, Int.reduceLT, Int.reduceLE, Nat.reduceMul, Nat.reduceMod, evW, fn_eq, evR, Nat.reduceAdd, Nat.reduceLT, Nat.reduceLeDiff, reduceIte, Nat.reduceEqDiff, reduceCtorEq, argEnv, eq_self, if_true, if_false]
    simp [keyOf, hk]
  · obtain ⟨k, f, h1, h2, h3, h4, h5, h6⟩ := key_in ht (by omega)
    have haf := aFd h2
    have hw := wrapQ (a := f.at') (b := f.bytes) (by omega) (by omega) (by omega) (by omega)
    have k0 : ¬ (k : Int) < 0 := by omega
    have hsl := slcs_at x.data (a := f.at') (c := f.at' + f.bytes) h3 (by omega) (by omega)
    rw [keyOf_at h1 h2]
    simp only [c90, eBase, rItem, rTy, rFd, hat, h1, k0, haf, hw, p_slcs, slcsK_some, asNat_int h3, asNat_int (show 0 ≤ f.at' + f.bytes by omega), hsl, evX, Int.reduceEq, Int.reduceLT, Int.reduceLE, Nat.reduceMul, Nat.reduceMod, evW, fn_eq, evR, Nat.reduceAdd, Nat.reduceLT, Nat.reduceLeDiff, reduceIte, Nat.reduceEqDiff, reduceCtorEq, argEnv, eq_self, if_true, if_false]
end Go.Proofs.YtbdpceigmnpoaaaGreatDoor.Code

/- plain: which lists are forests, as the document asks: the walk up from the item in front. -/
set_option linter.unusedSimpArgs false
set_option linter.unusedVariables false
namespace Go.Proofs.YtbdpceigmnpoaaaGreatDoor.Code
open Go.Proofs.YtbdpceigmnpoaaaGreatDoor.Ev

theorem pthI_neg (ts : List Ty) (f : List Item) {p : Int} (h : p < 0) : pthI ts f p = [] := ancI_neg _ h
theorem pthI_nat (ts : List Ty) (f : List Item) (k : Nat) : pthI ts f (k : Int) = pth ts f k := ancI_nat _ k
theorem pth_self (ts : List Ty) (f : List Item) (k : Nat) : (k : Int) ∈ pth ts f k := anc_self _ k
theorem pth_last (ts : List Ty) (f : List Item) (k : Nat) : (pth ts f k).getLast? = some (k : Int) := by
  unfold pth; rw [← last_anc]; simp
theorem pthI_inj {ts : List Ty} {f : List Item} {p q : Int} (hp : -1 ≤ p) (hq : -1 ≤ q) (h : pthI ts f p = pthI ts f q) : p = q := by
  by_cases h1 : p < 0
  · by_cases h2 : q < 0
    · omega
    · obtain ⟨q, rfl⟩ : ∃ q' : Nat, q = (q' : Int) := ⟨q.toNat, by omega⟩
      rw [pthI_neg _ _ h1, pthI_nat] at h
      have := pth_self ts f q
      rw [← h] at this; cases this
  · obtain ⟨p, rfl⟩ : ∃ q' : Nat, p = (q' : Int) := ⟨p.toNat, by omega⟩
    by_cases h2 : q < 0
    · rw [pthI_neg _ _ h2, pthI_nat] at h
      have := pth_self ts f p
      rw [h] at this; cases this
    · obtain ⟨q, rfl⟩ : ∃ q' : Nat, q = (q' : Int) := ⟨q.toNat, by omega⟩
      rw [pthI_nat, pthI_nat] at h
      have h1 := pth_last ts f p
      rw [h, pth_last] at h1
      cases h1; rfl
theorem take_way (ts : List Ty) (f : List Item) {i : Nat} (hi : i ≤ f.length) {m : Nat} {a : Int} (h : (way ts f i)[m]? = some a) : (way ts f i).take (m + 1) = pth ts f a.toNat := by
  cases i with
  | zero => simp [way, wayTo] at h
  | succ i => exact take_anc (pts ts f) (good_pts ts f) (by rw [pts_len]; omega) i i (Nat.le_refl _) (by omega) m a h
/-- where the walk up from the item in front ends -/
def Walk (ts : List Ty) (f : List Item) (i : Nat) (p K : Int) : Prop :=
  (K < p ∧ p ∉ way ts f i) ∨ ((p < 0 ∨ p ∈ way ts f i) ∧ ((K = p ∧ (way ts f i)[(pthI ts f p).length]? = none) ∨ (p < K ∧ (way ts f i)[(pthI ts f p).length]? = some K)))
theorem walk_end (ts : List Ty) (f : List Item) {i : Nat} (hi : i ≤ f.length) {p k : Int} (hp : -1 ≤ p) (hk : -1 ≤ k) (hki : k < (i : Int)) (suf : List Int) (hw : way ts f i = pthI ts f k ++ suf) (hs : ∀ e ∈ suf, p < e ∧ par ts f e.toNat ≠ p) (h : k ≤ p ∨ par ts f k.toNat = p) : Walk ts f i p k := by
  have pin : 0 ≤ k → k ∈ pthI ts f k := fun h => by
    obtain ⟨q, rfl⟩ : ∃ q' : Nat, k = (q' : Int) := ⟨k.toNat, by omega⟩
    rw [pthI_nat]; exact pth_self ts f q
  by_cases h1 : k < p
  · refine .inl ⟨h1, fun hm => ?_⟩
    rw [hw] at hm
    rcases List.mem_append.1 hm with hm | hm
    · by_cases h0 : k < 0
      · rw [pthI_neg _ _ h0] at hm; cases hm
      · obtain ⟨q, rfl⟩ : ∃ q' : Nat, k = (q' : Int) := ⟨k.toNat, by omega⟩
        rw [pthI_nat] at hm
        have := pth_bound hm; omega
    · have := (hs p hm).1; omega
  by_cases h2 : k = p
  · subst h2
    refine .inr ⟨?_, .inl ⟨rfl, ?_⟩⟩
    · by_cases h0 : k < 0
      · exact .inl h0
      · exact .inr (by rw [hw]; exact List.mem_append_left _ (pin (by omega)))
    · cases suf with
      | nil => rw [hw]; simp
      | cons e suf =>
        exfalso
        have he : (way ts f i)[(pthI ts f k).length]? = some e := by rw [hw]; simp
        have ht := take_way ts f hi he
        have hb := way_bound (List.mem_of_getElem? he)
        rw [hw, List.take_append] at ht
        simp only [Nat.add_sub_cancel_left, List.take_succ_cons, List.take_zero, List.take_of_length_le (Nat.le_succ _)] at ht
        rw [pth_eq ts f (by omega), show ((e.toNat : Nat) : Int) = e by omega] at ht
        have := List.append_inj_left' ht rfl
        exact (hs e (List.mem_cons_self ..)).2 (pthI_inj hk (par_lt ts f _).1 this).symm
  · have h3 : par ts f k.toNat = p := by rcases h with h | h; (· omega); exact h
    obtain ⟨q, rfl⟩ : ∃ q' : Nat, k = (q' : Int) := ⟨k.toNat, by omega⟩
    rw [Int.toNat_natCast] at h3
    rw [pthI_nat, pth_eq ts f (by omega), h3] at hw
    refine .inr ⟨?_, .inr ⟨by omega, by rw [hw]; simp⟩⟩
    by_cases h0 : p < 0
    · exact .inl h0
    · obtain ⟨p, rfl⟩ : ∃ q' : Nat, p = (q' : Int) := ⟨p.toNat, by omega⟩
      refine .inr ?_
      rw [hw, pthI_nat]
      simp [pth_self]
theorem way_start (ts : List Ty) (f : List Item) (i : Nat) : way ts f i = pthI ts f ((i : Int) - 1) ++ [] := by
  cases i with
  | zero => rw [pthI_neg _ _ (by omega)]; rfl
  | succ i =>
    rw [show ((i + 1 : Nat) : Int) - 1 = (i : Int) by omega, pthI_nat, List.append_nil]; rfl
def AllFit (ts : List Ty) (f : List Item) : Prop := ∀ (i : Nat) (x : Item), f[i]? = some x → fits ts x = true
theorem l49 (b : Base) (f : List Item) (hfit : AllFit b.types f) (hl : f.length ≤ 1000) (i : Nat) (hi : i < f.length) (H : Heap) (b1 : Nat) (hs1 : Sits H b1 (bBase b)) (p : Int) (hp : -1 ≤ p) (st : St) (G : Heap)
    (hE : keepEnv st.1 [1, 2, 6, 7, 8] = [(1, eItems f), (2, .ptr b1 0 4 0 0), (6, .int .i64 (i : Int)), (7, .int .i64 p), (8, .int .i64 ((i : Int) - 1))]) (hH : st.2 = H ++ G) (z : Option (CX × St)) (hz : itLim (evCode (evC cprog) itLim c49_l1) st = z) :
    ∃ T K, z = some (.exit 4, T, H ++ G) ∧ keepEnv T [1, 2, 6, 7, 8] = [(1, eItems f), (2, .ptr b1 0 4 0 0), (6, .int .i64 (i : Int)), (7, .int .i64 p), (8, .int .i64 K)] ∧ -1 ≤ K ∧ K < (i : Int) ∧ Walk b.types f i p K := by
  have L := loop_rule (σ := Int × List Int) (m := [1, 2, 6, 7, 8]) (env := fun s => [(1, eItems f), (2, .ptr b1 0 4 0 0), (6, .int .i64 (i : Int)), (7, .int .i64 p), (8, .int .i64 s.1)]) (hp := fun _ => H ++ G)
    (P := fun s r => ∃ T K, r = (.exit 4, T, H ++ G) ∧ keepEnv T [1, 2, 6, 7, 8] = [(1, eItems f), (2, .ptr b1 0 4 0 0), (6, .int .i64 (i : Int)), (7, .int .i64 p), (8, .int .i64 K)] ∧ -1 ≤ K ∧ K < (i : Int) ∧ Walk b.types f i p K)
    (mu := fun s => (s.1 + 1).toNat) (I := fun s => -1 ≤ s.1 ∧ s.1 < (i : Int) ∧ way b.types f i = pthI b.types f s.1 ++ s.2 ∧ ∀ e ∈ s.2, p < e ∧ par b.types f e.toNat ≠ p) (evCode (evC cprog) itLim c49_l1) ?_ ((i : Int) - 1, []) st ⟨by simp only; omega, by simp only; omega, way_start .., by simp⟩ hE hH z hz
  · obtain ⟨_, rfl, T, K, rfl, h⟩ := L
    exact ⟨T, K, rfl, h⟩
  · intro ⟨k, suf⟩ ⟨h1, h2, h3, h4⟩ E hE
    simp only at h1 h2 h3 h4 hE ⊢
    have hs := hs1
    simp only [bBase, Sits] at hs
    by_cases h0 : p < k
    · obtain ⟨j, rfl⟩ : ∃ j : Nat, k = (j : Int) := ⟨k.toNat, by omega⟩
      obtain ⟨y, hy⟩ : ∃ y, f[j]? = some y := ⟨_, List.getElem?_eq_getElem (by omega)⟩
      obtain ⟨c, t, q1, _, q2, _⟩ := fits_some (hfit j y hy)
      have h64 := f89 b f j y hy c t q1 q2 hl
      simp only [eBase] at h64
      have hb := par_lt b.types f j
      by_cases h5 : par b.types f j = p
      · simp only [c49_l1, hE, hs, h0, h64, h5, evX, Int.reduceEq, Int.reduceLT, Int.reduceLE, Nat.reduceMul, Nat.reduceMod, evW, fn_eq, evR, Nat.reduceAdd, Nat.reduceLT, Nat.reduceLeDiff, reduceIte, Nat.reduceEqDiff, reduceCtorEq, argEnv, eq_self, if_true, if_false]
        exact q_exit ⟨_, _, rfl, by rfl, by omega, by omega, walk_end b.types f (by omega) hp (by omega) (by omega) suf h3 h4 (.inr (by rw [Int.toNat_natCast]; exact h5))⟩
      · simp only [c49_l1, hE, hs, h0, h64, h5, evX, Int.reduceEq, Int.reduceLT, Int.reduceLE, Nat.reduceMul, Nat.reduceMod, evW, fn_eq, evR, Nat.reduceAdd, Nat.reduceLT, Nat.reduceLeDiff, reduceIte, Nat.reduceEqDiff, reduceCtorEq, argEnv, eq_self, if_true, if_false]
        refine q_next (par b.types f j, (j : Int) :: suf) (by rfl) rfl ⟨hb.1, by simp only; omega, ?_, ?_⟩ (by simp only; omega) fun r h => h
        · simp only
          rw [h3, pthI_nat, pth_eq b.types f (by omega)]; simp
        · intro e he
          rcases List.mem_cons.1 he with rfl | he
          · exact ⟨h0, by rw [Int.toNat_natCast]; exact h5⟩
          · exact h4 e he
    · simp only [c49_l1, hE, h0, evX, Int.reduceEq, Int.reduceLT, Int.reduceLE, Nat.reduceMul, Nat.reduceMod, evW, fn_eq, evR, Nat.reduceAdd, Nat.reduceLT, Nat.reduceLeDiff, reduceIte, Nat.reduceEqDiff, reduceCtorEq, argEnv, eq_self, if_true, if_false]
      exact q_exit ⟨_, _, rfl, by rfl, by omega, by omega, walk_end b.types f (by omega) hp (by omega) (by omega) suf h3 h4 (.inl (by omega))⟩
end Go.Proofs.YtbdpceigmnpoaaaGreatDoor.Code

/- plain: which lists are forests, as the document asks. -/
set_option linter.unusedSimpArgs false
set_option linter.unusedVariables false
namespace Go.Proofs.YtbdpceigmnpoaaaGreatDoor.Code
open Go.Proofs.YtbdpceigmnpoaaaGreatDoor.Ev

theorem k49 (b : Base) (f : List Item) (hl : f.length ≤ 1000) (H : Heap) (b1 : Nat) (hs1 : Sits H b1 (bBase b)) (st : St) (G : Heap) (hE : keepEnv st.1 [1, 2, 5] = [(1, eItems f), (2, .ptr b1 0 4 0 0), (5, .int .i64 0)]) (hH : st.2 = H ++ ([] ++ G)) (z : Option (CX × St)) (hz : itLim (evCode (evC cprog) itLim c49_l0) st = z) :
    (f.all (fits b.types) = true ∧ Lv H [] (fun c T => c = .exit 0 ∧ keepEnv T [1, 2] = [(1, eItems f), (2, .ptr b1 0 4 0 0)]) z) ∨ (f.all (fits b.types) = false ∧ Lv H [] (fun c T => c = .ret ∧ get T 4 = some (.bool false)) z) := by
  have hlen := (sItems [] f).len
  have hlen' := (sTys [] b.types).len
  simp only [List.length_map] at hlen hlen'
  have hs := hs1
  simp only [bBase, Sits] at hs
  exact all_rule f (fits b.types) [1, 2, 5] (fun i => [(1, eItems f), (2, .ptr b1 0 4 0 0), (5, .int .i64 (i : Int))]) H [] (evCode (evC cprog) itLim c49_l0) _ _
    (fun i x hx E G hE => by
      have hlt : i < f.length := (List.getElem?_eq_some_iff.1 hx).1
      have hi : (i : Int) < (f.length : Int) := by omega
      have ha := aItem hx
      have hw := wrapS hlt (by omega)
      by_cases h1 : x.type < 0
      · simp only [c49_l0, hE, hi, hs, ha, hlen, h1, rItem, evX, Int.reduceEq, Int.reduceLT, Int.reduceLE, Nat.reduceMul, Nat.reduceMod, evW, fn_eq, evR, Nat.reduceAdd, Nat.reduceLT, Nat.reduceLeDiff, reduceIte, Nat.reduceEqDiff, reduceCtorEq, argEnv, eq_self, if_true, if_false]
        exact Sc.ret (fits_none (by omega)) ⟨rfl, by rfl⟩
      by_cases h2 : (b.types.length : Int) ≤ x.type
      · simp only [c49_l0, hE, hi, hs, ha, hlen, hlen', h1, h2, rItem, evX, Int.reduceEq, Int.reduceLT, Int.reduceLE, Nat.reduceMul, Nat.reduceMod, evW, fn_eq, evR, Nat.reduceAdd, Nat.reduceLT, Nat.reduceLeDiff, reduceIte, Nat.reduceEqDiff, reduceCtorEq, argEnv, eq_self, if_true, if_false]
        exact Sc.ret (fits_none (by omega)) ⟨rfl, by rfl⟩
      obtain ⟨k, hk⟩ : ∃ k : Nat, x.type = (k : Int) := ⟨x.type.toNat, by omega⟩
      obtain ⟨t, ht⟩ : ∃ t, b.types[k]? = some t := ⟨_, List.getElem?_eq_getElem (by omega)⟩
      have hat := aTy ht
      rw [← hk] at hat
      by_cases h3 : (x.data.size : Int) < t.min
      · simp only [c49_l0, hE, hi, hs, ha, hat, hlen, hlen', h1, h2, h3, rItem, rTy, evX, Int.reduceEq, Int.reduceLT, Int.reduceLE, Nat.reduceMul, Nat.reduceMod, evW, fn_eq, evR, Nat.reduceAdd, Nat.reduceLT, Nat.reduceLeDiff, reduceIte, Nat.reduceEqDiff, reduceCtorEq, argEnv, eq_self, if_true, if_false]
        exact Sc.ret (by rw [fits_at hk ht, decide_eq_false (by omega)]; rfl) ⟨rfl, by rfl⟩
      by_cases h4 : t.size < (x.data.size : Int)
      · simp only [c49_l0, hE, hi, hs, ha, hat, hlen, hlen', h1, h2, h3, h4, rItem, rTy, evX, Int.reduceEq, Int.reduceLT, Int.reduceLE, Nat.reduceMul, Nat.reduceMod, evW, fn_eq, evR, Nat.reduceAdd, Nat.reduceLT, Nat.reduceLeDiff, reduceIte, Nat.reduceEqDiff, reduceCtorEq, argEnv, eq_self, if_true, if_false]
        exact Sc.ret (by rw [fits_at hk ht, decide_eq_false (show ¬ (x.data.size : Int) ≤ t.size by omega), Bool.and_false]) ⟨rfl, by rfl⟩
      · simp only [c49_l0, hE, hi, hs, ha, hat, hlen, hlen', h1, h2, h3, h4, hw, rItem, rTy, evX, Int.reduceEq, Int.reduceLT, Int.reduceLE, Nat.reduceMul, Nat.reduceMod, evW, fn_eq, evR, Nat.reduceAdd, Nat.reduceLT, Nat.reduceLeDiff, reduceIte, Nat.reduceEqDiff, reduceCtorEq, argEnv, eq_self, if_true, if_false]
        exact Sc.next (by rw [fits_at hk ht, decide_eq_true (by omega), decide_eq_true (by omega)]; rfl) (by rfl))
    (fun E G hE => by
      simp only [c49_l0, hE, hlen, Int.lt_irrefl, evX, Int.reduceEq, Int.reduceLT, Int.reduceLE, Nat.reduceMul, Nat.reduceMod, evW, fn_eq, evR, Nat.reduceAdd, Nat.reduceLT, Nat.reduceLeDiff, reduceIte, Nat.reduceEqDiff, reduceCtorEq, argEnv, eq_self, if_true, if_false]
      exact .exit (K := []) ⟨rfl, by rfl⟩) st G hE hH z hz
theorem m49 (b : Base) (ht : tysOk b.types = true) (f : List Item) (hfit : AllFit b.types f) (hl : f.length ≤ 1000) (H : Heap) (b1 : Nat) (hs1 : Sits H b1 (bBase b)) (st : St) (G : Heap) (hE : keepEnv st.1 [1, 2, 6] = [(1, eItems f), (2, .ptr b1 0 4 0 0), (6, .int .i64 0)]) (hH : st.2 = H ++ ([] ++ G)) (z : Option (CX × St)) (hz : itLim (evCode (evC cprog) itLim c49_l2) st = z) :
    (tell (∀ (i : Nat) (x : Item), f[i]? = some x → okAt b.types f i x = true) = true ∧ Lv H [] (fun c T => c = .exit 2) z) ∨ (tell (∀ (i : Nat) (x : Item), f[i]? = some x → okAt b.types f i x = true) = false ∧ Lv H [] (fun c T => c = .ret ∧ get T 4 = some (.bool false)) z) := by
  have hlen := (sItems [] f).len
  simp only [List.length_map] at hlen
  have hs := hs1
  simp only [bBase, Sits] at hs
  have L := scan_pre f (okAt b.types f) [1, 2, 6] (fun i => [(1, eItems f), (2, .ptr b1 0 4 0 0), (6, .int .i64 (i : Int))]) H [] (evCode (evC cprog) itLim c49_l2) (fun c T => c = .exit 2) (fun _ _ c T => c = .ret ∧ get T 4 = some (.bool false))
    (fun i x hx hpre E G hE => by
      have hlt : i < f.length := (List.getElem?_eq_some_iff.1 hx).1
      have hi : (i : Int) < (f.length : Int) := by omega
      have ha := aItem hx
      have hw := wrapS hlt (by omega)
      have hft := hfit i x hx
      obtain ⟨k, t, hk, hkl, htk, hmin, hmax⟩ := fits_some hft
      have hat := aTy htk
      rw [← hk] at hat
      have hpt : tpar b.types x.type = t.parent := by rw [hk, tpar_at htk]
      have hty : tyOk t = true := by have := tell_true.1 ht k t htk; simp only [tyAt, Bool.and_eq_true] at this; exact this.1.1.1
      have htyo : tyOf b.types x.type = t := by rw [hk, tyOf_at htk]
      have h64 := f89 b f i x hx k t hk htk hl
      simp only [eBase] at h64
      have hb := par_lt b.types f i
      have hwm : IntKind.i64.wrap ((i : Int) - 1) = (i : Int) - 1 := wrap_i64 (by omega) (by omega)
      by_cases hA : par b.types f i < 0 ∧ x.type ≠ 0
      · obtain ⟨hA1, hA2⟩ := hA
        simp only [c49_l2, hE, hi, hs, ha, hlen, h64, hA1, hA2, rItem, evX, Int.reduceEq, Int.reduceLT, Int.reduceLE, Nat.reduceMul, Nat.reduceMod, evW, fn_eq, evR, Nat.reduceAdd, Nat.reduceLT, Nat.reduceLeDiff, reduceIte, Nat.reduceEqDiff, reduceCtorEq, argEnv, eq_self, if_true, if_false]
        refine Sc.ret ?_ ⟨rfl, rfl⟩
        have h1 : ¬ t.parent < 0 := fun h => by have := (tys_root ht htk).1 h; omega
        have h2 : par b.types f i ∉ way b.types f i := fun h => by have := way_bound h; omega
        rw [okAt, hpt, decide_eq_false h1, tell_neg h2]; simp
      have hcont : ∃ u, (decide (par b.types f i < 0) = true ∧ decide (x.type = 0) = true ∧ u = ()) ∨ (decide (par b.types f i < 0) = false ∧ u = ()) := ⟨(), by
        by_cases h : par b.types f i < 0
        · exact .inl ⟨decide_eq_true h, decide_eq_true (Classical.byContradiction fun h' => hA ⟨h, h'⟩), rfl⟩
        · exact .inr ⟨decide_eq_false h, rfl⟩⟩
      obtain ⟨_, ⟨c1, c2, _⟩ | ⟨c1, _⟩⟩ := hcont
      · simp only [c49_l2, hE, hi, hs, ha, hlen, h64, c1, c2, hwm, rItem, evX, Int.reduceEq, Int.reduceLT, Int.reduceLE, Nat.reduceMul, Nat.reduceMod, evW, fn_eq, evR, Nat.reduceAdd, Nat.reduceLT, Nat.reduceLeDiff, reduceIte, Nat.reduceEqDiff, reduceCtorEq, argEnv, eq_self, if_true, if_false]
        generalize hz : itLim _ _ = z
        obtain ⟨T, K, rfl, hT, k1, k2, hW⟩ := l49 b f hfit hl i hlt H b1 hs1 (par b.types f i) hb.1 _ G (by rfl) (by rfl) z hz
        rcases hW with ⟨g1, g2⟩ | ⟨g0, ⟨rfl, g1⟩ | ⟨g1, g2⟩⟩
        · simp only [hT, g1, evX, Int.reduceEq, Int.reduceLT, Int.reduceLE, Nat.reduceMul, Nat.reduceMod, evW, fn_eq, evR, Nat.reduceAdd, Nat.reduceLT, Nat.reduceLeDiff, reduceIte, Nat.reduceEqDiff, reduceCtorEq, argEnv, eq_self, if_true, if_false]
          refine Sc.ret ?_ ⟨rfl, rfl⟩
          have h1 := (par_typ (ts := b.types) (f := f) (i := i) (by omega)).2
          rw [typ_at hx] at h1
          rw [okAt, decide_eq_false (by omega), tell_neg g2]; simp
        · have hok : (decide (tpar b.types x.type < 0) || tell (par b.types f i ∈ way b.types f i)) = true := by
            rcases g0 with g0 | g0
            · have h0 : x.type = 0 := Classical.byContradiction fun h' => hA ⟨g0, h'⟩
              rw [hpt, decide_eq_true ((tys_root ht htk).2 (by omega))]; rfl
            · rw [tell_pos g0]; simp
          have hsib : sibOk b.types f i x = true := by simp only [sibOk, nOf, g1]
          simp only [hT, Int.lt_irrefl, hw, evX, Int.reduceEq, Int.reduceLT, Int.reduceLE, Nat.reduceMul, Nat.reduceMod, evW, fn_eq, evR, Nat.reduceAdd, Nat.reduceLT, Nat.reduceLeDiff, reduceIte, Nat.reduceEqDiff, reduceCtorEq, argEnv, eq_self, if_true, if_false]
          exact Sc.next (by rw [okAt, hft, hok, hsib]; rfl) (by rfl)
        · have hok : (decide (tpar b.types x.type < 0) || tell (par b.types f i ∈ way b.types f i)) = true := by
            rcases g0 with g0 | g0
            · have h0 : x.type = 0 := Classical.byContradiction fun h' => hA ⟨g0, h'⟩
              rw [hpt, decide_eq_true ((tys_root ht htk).2 (by omega))]; rfl
            · rw [tell_pos g0]; simp
          have hKb := way_bound (List.mem_of_getElem? g2)
          obtain ⟨a, rfl⟩ : ∃ a : Nat, K = (a : Int) := ⟨K.toNat, by omega⟩
          obtain ⟨y, hy⟩ : ∃ y, f[a]? = some y := ⟨_, List.getElem?_eq_getElem (by omega)⟩
          have hya := aItem hy
          have n1 : ¬ (a : Int) < par b.types f i := by omega
          have n2 : ¬ (a : Int) = par b.types f i := by omega
          have hsib : sibOk b.types f i x = ordOk b.types f (a : Int) x := by simp only [sibOk, nOf, g2]
          simp only [ordOk, typ_at hy, dat_at hy, htyo] at hsib
          by_cases o1 : x.type < y.type
          · simp only [hT, n1, n2, ha, hya, o1, rItem, evX, Int.reduceEq, Int.reduceLT, Int.reduceLE, Nat.reduceMul, Nat.reduceMod, evW, fn_eq, evR, Nat.reduceAdd, Nat.reduceLT, Nat.reduceLeDiff, reduceIte, Nat.reduceEqDiff, reduceCtorEq, argEnv, eq_self, if_true, if_false]
            exact Sc.ret (bad_sib (by rw [hsib, decide_eq_false (show ¬ y.type < x.type by omega), decide_eq_false (show ¬ y.type = x.type by omega)]; rfl)) ⟨rfl, rfl⟩
          by_cases o2 : y.type = x.type
          · have hfy := fits_some (hfit a y hy)
            obtain ⟨k', t', q1, _, q2, q3, _⟩ := hfy
            obtain rfl : k' = k := by omega
            rw [htk] at q2; cases q2
            have o0 : ¬ x.type < x.type := by omega
            by_cases o4 : 0 ≤ t.key
            · have h1 := f90 b y k' t (by omega) htk hty q3
              have h2 := f90 b x k' t hk htk hty hmin
              simp only [eBase, rItem, o2] at h1 h2
              have hin : inOrd t y.data x.data = (bLt (keyOf t y.data) (keyOf t x.data) || (decide (keyOf t y.data = keyOf t x.data) && !t.unique)) := by
                rw [inOrd, decide_eq_false (by omega)]; rfl
              rw [hin, decide_eq_false (show ¬ y.type < x.type by omega), decide_eq_true o2] at hsib
              cases o5 : bLt (keyOf t y.data) (keyOf t x.data) with
              | true =>
                have o6 : ¬ keyOf t y.data = keyOf t x.data := fun e => by rw [e, bLt_irrefl] at o5; cases o5
                rw [o5] at hsib
                simp only [hT, hs, n1, n2, ha, hya, hat, o0, o2, o4, o5, o6, h1, h2, hw, rItem, rTy, evX, Int.reduceEq, Int.reduceLT, Int.reduceLE, Nat.reduceMul, Nat.reduceMod, evW, fn_eq, evR, Nat.reduceAdd, Nat.reduceLT, Nat.reduceLeDiff, reduceIte, Nat.reduceEqDiff, reduceCtorEq, argEnv, eq_self, if_true, if_false]
                exact Sc.next (by rw [okAt, hft, hok, hsib]; rfl) (by rfl)
              | false =>
                by_cases o6 : keyOf t y.data = keyOf t x.data
                · cases o7 : t.unique with
                  | true =>
                    rw [o5, o7] at hsib
                    simp only [hT, hs, n1, n2, ha, hya, hat, o0, o2, o4, o5, o6, o7, bLt_irrefl, h1, h2, rItem, rTy, evX, Int.reduceEq, Int.reduceLT, Int.reduceLE, Nat.reduceMul, Nat.reduceMod, evW, fn_eq, evR, Nat.reduceAdd, Nat.reduceLT, Nat.reduceLeDiff, reduceIte, Nat.reduceEqDiff, reduceCtorEq, argEnv, eq_self, if_true, if_false]
                    exact Sc.ret (bad_sib (by rw [hsib]; simp)) ⟨rfl, rfl⟩
                  | false =>
                    rw [o5, o7, decide_eq_true o6] at hsib
                    simp only [hT, hs, n1, n2, ha, hya, hat, o0, o2, o4, o5, o6, o7, bLt_irrefl, h1, h2, hw, rItem, rTy, evX, Int.reduceEq, Int.reduceLT, Int.reduceLE, Nat.reduceMul, Nat.reduceMod, evW, fn_eq, evR, Nat.reduceAdd, Nat.reduceLT, Nat.reduceLeDiff, reduceIte, Nat.reduceEqDiff, reduceCtorEq, argEnv, eq_self, if_true, if_false]
                    exact Sc.next (by rw [okAt, hft, hok, hsib]; rfl) (by rfl)
                · rw [o5, decide_eq_false o6] at hsib
                  simp only [hT, hs, n1, n2, ha, hya, hat, o0, o2, o4, o5, o6, h1, h2, rItem, rTy, evX, Int.reduceEq, Int.reduceLT, Int.reduceLE, Nat.reduceMul, Nat.reduceMod, evW, fn_eq, evR, Nat.reduceAdd, Nat.reduceLT, Nat.reduceLeDiff, reduceIte, Nat.reduceEqDiff, reduceCtorEq, argEnv, eq_self, if_true, if_false]
                  exact Sc.ret (bad_sib (by rw [hsib]; simp)) ⟨rfl, rfl⟩
            · have hin : inOrd t y.data x.data = true := by rw [inOrd, decide_eq_true (by omega)]; rfl
              rw [hin, decide_eq_true o2] at hsib
              simp only [hT, hs, n1, n2, ha, hya, hat, o0, o2, o4, hw, rItem, rTy, evX, Int.reduceEq, Int.reduceLT, Int.reduceLE, Nat.reduceMul, Nat.reduceMod, evW, fn_eq, evR, Nat.reduceAdd, Nat.reduceLT, Nat.reduceLeDiff, reduceIte, Nat.reduceEqDiff, reduceCtorEq, argEnv, eq_self, if_true, if_false]
              exact Sc.next (by rw [okAt, hft, hok, hsib]; simp) (by rfl)
          · simp only [hT, hs, n1, n2, ha, hya, o1, o2, hw, rItem, rTy, evX, Int.reduceEq, Int.reduceLT, Int.reduceLE, Nat.reduceMul, Nat.reduceMod, evW, fn_eq, evR, Nat.reduceAdd, Nat.reduceLT, Nat.reduceLeDiff, reduceIte, Nat.reduceEqDiff, reduceCtorEq, argEnv, eq_self, if_true, if_false]
            exact Sc.next (by rw [okAt, hft, hok, hsib, decide_eq_true (show y.type < x.type by omega)]; rfl) (by rfl)
      · simp only [c49_l2, hE, hi, hs, ha, hlen, h64, c1, hwm, rItem, evX, Int.reduceEq, Int.reduceLT, Int.reduceLE, Nat.reduceMul, Nat.reduceMod, evW, fn_eq, evR, Nat.reduceAdd, Nat.reduceLT, Nat.reduceLeDiff, reduceIte, Nat.reduceEqDiff, reduceCtorEq, argEnv, eq_self, if_true, if_false]
        generalize hz : itLim _ _ = z
        obtain ⟨T, K, rfl, hT, k1, k2, hW⟩ := l49 b f hfit hl i hlt H b1 hs1 (par b.types f i) hb.1 _ G (by rfl) (by rfl) z hz
        rcases hW with ⟨g1, g2⟩ | ⟨g0, ⟨rfl, g1⟩ | ⟨g1, g2⟩⟩
        · simp only [hT, g1, evX, Int.reduceEq, Int.reduceLT, Int.reduceLE, Nat.reduceMul, Nat.reduceMod, evW, fn_eq, evR, Nat.reduceAdd, Nat.reduceLT, Nat.reduceLeDiff, reduceIte, Nat.reduceEqDiff, reduceCtorEq, argEnv, eq_self, if_true, if_false]
          refine Sc.ret ?_ ⟨rfl, rfl⟩
          have h1 := (par_typ (ts := b.types) (f := f) (i := i) (by omega)).2
          rw [typ_at hx] at h1
          rw [okAt, decide_eq_false (by omega), tell_neg g2]; simp
        · have hok : (decide (tpar b.types x.type < 0) || tell (par b.types f i ∈ way b.types f i)) = true := by
            rcases g0 with g0 | g0
            · have h0 : x.type = 0 := Classical.byContradiction fun h' => hA ⟨g0, h'⟩
              rw [hpt, decide_eq_true ((tys_root ht htk).2 (by omega))]; rfl
            · rw [tell_pos g0]; simp
          have hsib : sibOk b.types f i x = true := by simp only [sibOk, nOf, g1]
          simp only [hT, Int.lt_irrefl, hw, evX, Int.reduceEq, Int.reduceLT, Int.reduceLE, Nat.reduceMul, Nat.reduceMod, evW, fn_eq, evR, Nat.reduceAdd, Nat.reduceLT, Nat.reduceLeDiff, reduceIte, Nat.reduceEqDiff, reduceCtorEq, argEnv, eq_self, if_true, if_false]
          exact Sc.next (by rw [okAt, hft, hok, hsib]; rfl) (by rfl)
        · have hok : (decide (tpar b.types x.type < 0) || tell (par b.types f i ∈ way b.types f i)) = true := by
            rcases g0 with g0 | g0
            · have h0 : x.type = 0 := Classical.byContradiction fun h' => hA ⟨g0, h'⟩
              rw [hpt, decide_eq_true ((tys_root ht htk).2 (by omega))]; rfl
            · rw [tell_pos g0]; simp
          have hKb := way_bound (List.mem_of_getElem? g2)
          obtain ⟨a, rfl⟩ : ∃ a : Nat, K = (a : Int) := ⟨K.toNat, by omega⟩
          obtain ⟨y, hy⟩ : ∃ y, f[a]? = some y := ⟨_, List.getElem?_eq_getElem (by omega)⟩
          have hya := aItem hy
          have n1 : ¬ (a : Int) < par b.types f i := by omega
          have n2 : ¬ (a : Int) = par b.types f i := by omega
          have hsib : sibOk b.types f i x = ordOk b.types f (a : Int) x := by simp only [sibOk, nOf, g2]
          simp only [ordOk, typ_at hy, dat_at hy, htyo] at hsib
          by_cases o1 : x.type < y.type
          · simp only [hT, n1, n2, ha, hya, o1, rItem, evX, Int.reduceEq, Int.reduceLT, Int.reduceLE, Nat.reduceMul, Nat.reduceMod, evW, fn_eq, evR, Nat.reduceAdd, Nat.reduceLT, Nat.reduceLeDiff, reduceIte, Nat.reduceEqDiff, reduceCtorEq, argEnv, eq_self, if_true, if_false]
            exact Sc.ret (bad_sib (by rw [hsib, decide_eq_false (show ¬ y.type < x.type by omega), decide_eq_false (show ¬ y.type = x.type by omega)]; rfl)) ⟨rfl, rfl⟩
          by_cases o2 : y.type = x.type
          · have hfy := fits_some (hfit a y hy)
            obtain ⟨k', t', q1, _, q2, q3, _⟩ := hfy
            obtain rfl : k' = k := by omega
            rw [htk] at q2; cases q2
            have o0 : ¬ x.type < x.type := by omega
            by_cases o4 : 0 ≤ t.key
            · have h1 := f90 b y k' t (by omega) htk hty q3
              have h2 := f90 b x k' t hk htk hty hmin
              simp only [eBase, rItem, o2] at h1 h2
              have hin : inOrd t y.data x.data = (bLt (keyOf t y.data) (keyOf t x.data) || (decide (keyOf t y.data = keyOf t x.data) && !t.unique)) := by
                rw [inOrd, decide_eq_false (by omega)]; rfl
              rw [hin, decide_eq_false (show ¬ y.type < x.type by omega), decide_eq_true o2] at hsib
              cases o5 : bLt (keyOf t y.data) (keyOf t x.data) with
              | true =>
                have o6 : ¬ keyOf t y.data = keyOf t x.data := fun e => by rw [e, bLt_irrefl] at o5; cases o5
                rw [o5] at hsib
                simp only [hT, hs, n1, n2, ha, hya, hat, o0, o2, o4, o5, o6, h1, h2, hw, rItem, rTy, evX, Int.reduceEq, Int.reduceLT, Int.reduceLE, Nat.reduceMul, Nat.reduceMod, evW, fn_eq, evR, Nat.reduceAdd, Nat.reduceLT, Nat.reduceLeDiff, reduceIte, Nat.reduceEqDiff, reduceCtorEq, argEnv, eq_self, if_true, if_false]
                exact Sc.next (by rw [okAt, hft, hok, hsib]; rfl) (by rfl)
              | false =>
                by_cases o6 : keyOf t y.data = keyOf t x.data
                · cases o7 : t.unique with
                  | true =>
                    rw [o5, o7] at hsib
                    simp only [hT, hs, n1, n2, ha, hya, hat, o0, o2, o4, o5, o6, o7, bLt_irrefl, h1, h2, rItem, rTy, evX, Int.reduceEq, Int.reduceLT, Int.reduceLE, Nat.reduceMul, Nat.reduceMod, evW, fn_eq, evR, Nat.reduceAdd, Nat.reduceLT, Nat.reduceLeDiff, reduceIte, Nat.reduceEqDiff, reduceCtorEq, argEnv, eq_self, if_true, if_false]
                    exact Sc.ret (bad_sib (by rw [hsib]; simp)) ⟨rfl, rfl⟩
                  | false =>
                    rw [o5, o7, decide_eq_true o6] at hsib
                    simp only [hT, hs, n1, n2, ha, hya, hat, o0, o2, o4, o5, o6, o7, bLt_irrefl, h1, h2, hw, rItem, rTy, evX, Int.reduceEq, Int.reduceLT, Int.reduceLE, Nat.reduceMul, Nat.reduceMod, evW, fn_eq, evR, Nat.reduceAdd, Nat.reduceLT, Nat.reduceLeDiff, reduceIte, Nat.reduceEqDiff, reduceCtorEq, argEnv, eq_self, if_true, if_false]
                    exact Sc.next (by rw [okAt, hft, hok, hsib]; rfl) (by rfl)
                · rw [o5, decide_eq_false o6] at hsib
                  simp only [hT, hs, n1, n2, ha, hya, hat, o0, o2, o4, o5, o6, h1, h2, rItem, rTy, evX, Int.reduceEq, Int.reduceLT, Int.reduceLE, Nat.reduceMul, Nat.reduceMod, evW, fn_eq, evR, Nat.reduceAdd, Nat.reduceLT, Nat.reduceLeDiff, reduceIte, Nat.reduceEqDiff, reduceCtorEq, argEnv, eq_self, if_true, if_false]
                  exact Sc.ret (bad_sib (by rw [hsib]; simp)) ⟨rfl, rfl⟩
            · have hin : inOrd t y.data x.data = true := by rw [inOrd, decide_eq_true (by omega)]; rfl
              rw [hin, decide_eq_true o2] at hsib
              simp only [hT, hs, n1, n2, ha, hya, hat, o0, o2, o4, hw, rItem, rTy, evX, Int.reduceEq, Int.reduceLT, Int.reduceLE, Nat.reduceMul, Nat.reduceMod, evW, fn_eq, evR, Nat.reduceAdd, Nat.reduceLT, Nat.reduceLeDiff, reduceIte, Nat.reduceEqDiff, reduceCtorEq, argEnv, eq_self, if_true, if_false]
              exact Sc.next (by rw [okAt, hft, hok, hsib]; simp) (by rfl)
          · simp only [hT, hs, n1, n2, ha, hya, o1, o2, hw, rItem, rTy, evX, Int.reduceEq, Int.reduceLT, Int.reduceLE, Nat.reduceMul, Nat.reduceMod, evW, fn_eq, evR, Nat.reduceAdd, Nat.reduceLT, Nat.reduceLeDiff, reduceIte, Nat.reduceEqDiff, reduceCtorEq, argEnv, eq_self, if_true, if_false]
            exact Sc.next (by rw [okAt, hft, hok, hsib, decide_eq_true (show y.type < x.type by omega)]; rfl) (by rfl))
    (fun _ E G hE => by
      simp only [c49_l2, hE, hlen, Int.lt_irrefl, evX, Int.reduceEq, Int.reduceLT, Int.reduceLE, Nat.reduceMul, Nat.reduceMod, evW, fn_eq, evR, Nat.reduceAdd, Nat.reduceLT, Nat.reduceLeDiff, reduceIte, Nat.reduceEqDiff, reduceCtorEq, argEnv, eq_self, if_true, if_false]
      exact .exit (K := []) rfl) st G hE hH z hz
  rcases L with ⟨h, L⟩ | ⟨i, y, hx, h, _, L⟩
  · exact .inl ⟨tell_pos h, L⟩
  · exact .inr ⟨forest_bad hx h, L⟩
theorem f49 (b : Base) (ht : tysOk b.types = true) (f : List Item) (H : Heap) : cal (evC cprog) false 49 [eBase b, eItems f] H = some (.bool (forestOk b.types f), H) := by
  rw [cal_of at49]
  have hlen := (sItems [] f).len
  simp only [List.length_map] at hlen
  by_cases h : (200 : Int) < (f.length : Int)
  · have hv : forestOk b.types f = false := by unfold forestOk; rw [decide_eq_false (by omega)]; rfl
    rw [hv]
    simp only [c49, eBase, hlen, h, evX, Int.reduceEq, Int.reduceLT, Int.reduceLE, Nat.reduceMul, Nat.reduceMod, evW, fn_eq, evR, Nat.reduceAdd, Nat.reduceLT, Nat.reduceLeDiff, reduceIte, Nat.reduceEqDiff, reduceCtorEq, argEnv, eq_self, if_true, if_false]
  · have hv : forestOk b.types f = tell (∀ (i : Nat) (x : Item), f[i]? = some x → okAt b.types f i x = true) := by unfold forestOk; rw [decide_eq_true (by omega)]; rfl
    rw [hv]
    simp only [c49, eBase, hlen, h, evX, Int.reduceEq, Int.reduceLT, Int.reduceLE, Nat.reduceMul, Nat.reduceMod, evW, fn_eq, evR, Nat.reduceAdd, Nat.reduceLT, Nat.reduceLeDiff, reduceIte, Nat.reduceEqDiff, reduceCtorEq, argEnv, eq_self, if_true, if_false]
    generalize hz : itLim _ _ = z
    rcases k49 b f (by omega) (H ++ [bBase b]) H.length (.mk (by simp)) _ [] (by rfl) (by simp [bBase]) z hz with ⟨g, c, T, G', rfl, _, rfl, hT⟩ | ⟨g, c, T, G', rfl, _, rfl, hT⟩
    · have hfit : AllFit b.types f := fun i x hx => List.all_eq_true.1 g x (List.mem_of_getElem? hx)
      simp only [hT, evX, Int.reduceEq, Int.reduceLT, Int.reduceLE, Nat.reduceMul, Nat.reduceMod, evW, fn_eq, evR, Nat.reduceAdd, Nat.reduceLT, Nat.reduceLeDiff, reduceIte, Nat.reduceEqDiff, reduceCtorEq, argEnv, eq_self, if_true, if_false]
      generalize hz : itLim _ _ = z
      rcases m49 b ht f hfit (by omega) (H ++ [bBase b]) H.length (.mk (by simp)) _ G' (by rfl) (by simp) z hz with ⟨g2, c, T, G', rfl, _, rfl⟩ | ⟨g2, c, T, G', rfl, _, rfl, hT⟩
      · rw [g2]
        simp only [evX, Int.reduceEq, Int.reduceLT, Int.reduceLE, Nat.reduceMul, Nat.reduceMod, evW, fn_eq, evR, Nat.reduceAdd, Nat.reduceLT, Nat.reduceLeDiff, reduceIte, Nat.reduceEqDiff, reduceCtorEq, argEnv, eq_self, if_true, if_false]
      · rw [g2]
        simp only [hT, evX, Int.reduceEq, Int.reduceLT, Int.reduceLE, Nat.reduceMul, Nat.reduceMod, evW, fn_eq, evR, Nat.reduceAdd, Nat.reduceLT, Nat.reduceLeDiff, reduceIte, Nat.reduceEqDiff, reduceCtorEq, argEnv, eq_self, if_true, if_false]
    · have : tell (∀ (i : Nat) (x : Item), f[i]? = some x → okAt b.types f i x = true) = false := by
        obtain ⟨x, hx, h⟩ := List.all_eq_false.1 g
        obtain ⟨i, hi⟩ := List.getElem?_of_mem hx
        exact forest_bad hi (by simp [okAt, h])
      rw [this]
      simp only [hT, evX, Int.reduceEq, Int.reduceLT, Int.reduceLE, Nat.reduceMul, Nat.reduceMod, evW, fn_eq, evR, Nat.reduceAdd, Nat.reduceLT, Nat.reduceLeDiff, reduceIte, Nat.reduceEqDiff, reduceCtorEq, argEnv, eq_self, if_true, if_false]
end Go.Proofs.YtbdpceigmnpoaaaGreatDoor.Code

/- plain: the same lists; Small. -/
set_option linter.unusedSimpArgs false
set_option linter.unusedVariables false
namespace Go.Proofs.YtbdpceigmnpoaaaGreatDoor.Code
open Go.Proofs.YtbdpceigmnpoaaaGreatDoor.Ev

def sameI (x y : Item) : Bool := decide (x.type = y.type) && decide (x.data = y.data)
theorem sameI_eq {x y : Item} : sameI x y = true ↔ x = y := by
  cases x; cases y; simp [sameI]
theorem eqsItem (n : Bool) (x y : Item) : eqsK n [0, 2] (some (.agg [.int .i64 x.type, .str x.data])) (some (.agg [.int .i64 y.type, .str y.data])) = some (.bool (if n = true then !(sameI x y) else sameI x y)) := by
  simp only [eqsK, cellsEq, cellEq, str_beq, if_true, sameI, Bool.and_true, Option.map_some]
noncomputable def same (f g : List Item) : Bool := tell (f = g)
theorem same_no {f g : List Item} {i : Nat} {x y : Item} (hx : f[i]? = some x) (hy : g[i]? = some y) (h : sameI x y = false) : same f g = false := tell_neg fun e => by
  subst e; rw [hx] at hy; cases hy
  rw [sameI_eq.2 rfl] at h; cases h
theorem same_yes {f g : List Item} (hl : f.length = g.length) (h : ∀ (i : Nat) (x : Item), f[i]? = some x → (match g[i]? with | some y => sameI x y | none => false) = true) : same f g = true := tell_pos <| by
  apply List.ext_getElem? 
  intro i
  cases hx : f[i]? with
  | none =>
    have := List.getElem?_eq_none_iff.1 hx
    rw [List.getElem?_eq_none (by omega)]
  | some x =>
    have h1 := h i x hx
    cases hy : g[i]? with
    | none => simp [hy] at h1
    | some y =>
      simp only [hy] at h1
      rw [sameI_eq.1 h1]
theorem same_len {f g : List Item} (hl : f.length ≠ g.length) : same f g = false := tell_neg fun e => hl (by rw [e])
def okS (g : List Item) (i : Nat) (x : Item) : Bool := match g[i]? with
  | some y => sameI x y
  | none => false
theorem f23 (f g : List Item) (hf : f.length < 9223372036854775807) (H : Heap) : cal (evC cprog) false 23 [eItems f, eItems g] H = some (.bool (same f g), H) := by
  rw [cal_of at23]
  have h1 := (sItems [] f).len
  have h2 := (sItems [] g).len
  simp only [List.length_map] at h1 h2
  by_cases hl : f.length = g.length
  · have hl' : ((f.length : Int) = (g.length : Int)) := by omega
    simp only [c23, h1, h2, hl', evX, Int.reduceEq, Int.reduceLT, Int.reduceLE, Nat.reduceMul, Nat.reduceMod, evW, fn_eq, evR, Nat.reduceAdd, Nat.reduceLT, Nat.reduceLeDiff, reduceIte, Nat.reduceEqDiff, reduceCtorEq, argEnv, eq_self, if_true, if_false]
    generalize hz : itLim _ _ = z
    have L := scan_rule f (okS g) [0, 1, 5] (fun i => [(0, eItems f), (1, eItems g), (5, .int .i64 (i : Int))]) H [] (evCode (evC cprog) itLim c23_l0) (fun c T => c = .exit 0) (fun _ _ c T => c = .ret ∧ get T 4 = some (.bool false))
      (fun i x hx E G hE => by
        have hlt : i < f.length := (List.getElem?_eq_some_iff.1 hx).1
        have hi : (i : Int) < (f.length : Int) := by omega
        obtain ⟨y, hy⟩ : ∃ y, g[i]? = some y := ⟨_, List.getElem?_eq_getElem (by omega)⟩
        have ha := aItem hx
        have ha' := aItem hy
        have hok : okS g i x = sameI x y := by simp only [okS, hy]
        rw [hok]
        cases hs : sameI x y with
        | true =>
          simp only [c23_l0, hE, hi, h1, ha, ha', eqsItem, hs, rItem, wrapS hlt hf, evX, Int.reduceEq, Int.reduceLT, Int.reduceLE, Nat.reduceMul, Nat.reduceMod, evW, fn_eq, evR, Nat.reduceAdd, Nat.reduceLT, Nat.reduceLeDiff, reduceIte, Nat.reduceEqDiff, reduceCtorEq, argEnv, eq_self, if_true, if_false]
          exact Sc.next rfl (by rfl)
        | false =>
          simp only [c23_l0, hE, hi, h1, ha, ha', eqsItem, hs, rItem, evX, Int.reduceEq, Int.reduceLT, Int.reduceLE, Nat.reduceMul, Nat.reduceMod, evW, fn_eq, evR, Nat.reduceAdd, Nat.reduceLT, Nat.reduceLeDiff, reduceIte, Nat.reduceEqDiff, reduceCtorEq, argEnv, eq_self, if_true, if_false]
          exact Sc.ret rfl ⟨rfl, rfl⟩)
      (fun E G hE => by
        simp only [c23_l0, hE, h1, Int.lt_irrefl, evX, Int.reduceEq, Int.reduceLT, Int.reduceLE, Nat.reduceMul, Nat.reduceMod, evW, fn_eq, evR, Nat.reduceAdd, Nat.reduceLT, Nat.reduceLeDiff, reduceIte, Nat.reduceEqDiff, reduceCtorEq, argEnv, eq_self, if_true, if_false]
        exact .exit (K := []) rfl) _ [] (by rfl) (by simp) z hz
    rcases L with ⟨ha, c, T, G, rfl, _, rfl⟩ | ⟨i, r, hx, ha, _, c, T, G, rfl, _, rfl, hT⟩
    · rw [same_yes hl ha]
      simp only [evX, Int.reduceEq, Int.reduceLT, Int.reduceLE, Nat.reduceMul, Nat.reduceMod, evW, fn_eq, evR, Nat.reduceAdd, Nat.reduceLT, Nat.reduceLeDiff, reduceIte, Nat.reduceEqDiff, reduceCtorEq, argEnv, eq_self, if_true, if_false]
    · have hlt : i < f.length := (List.getElem?_eq_some_iff.1 hx).1
      obtain ⟨y, hy⟩ : ∃ y, g[i]? = some y := ⟨_, List.getElem?_eq_getElem (by omega)⟩
      rw [same_no hx hy (by simpa only [okS, hy] using ha)]
      simp only [hT, evX, Int.reduceEq, Int.reduceLT, Int.reduceLE, Nat.reduceMul, Nat.reduceMod, evW, fn_eq, evR, Nat.reduceAdd, Nat.reduceLT, Nat.reduceLeDiff, reduceIte, Nat.reduceEqDiff, reduceCtorEq, argEnv, eq_self, if_true, if_false]
  · have hl' : ¬ ((f.length : Int) = (g.length : Int)) := by omega
    rw [same_len hl]
    simp only [c23, h1, h2, hl', evX, Int.reduceEq, Int.reduceLT, Int.reduceLE, Nat.reduceMul, Nat.reduceMod, evW, fn_eq, evR, Nat.reduceAdd, Nat.reduceLT, Nat.reduceLeDiff, reduceIte, Nat.reduceEqDiff, reduceCtorEq, argEnv, eq_self, if_true, if_false]
def small (b : Base) (f : List Item) : Bool :=
  b.types.all (fun t => decide ((t.fields.length : Int) ≤ 10)) && f.all (fun x => decide ((x.data.size : Int) ≤ 100)) && decide ((b.types.length : Int) ≤ 12) && decide ((b.indexes.length : Int) ≤ 6) && decide ((f.length : Int) ≤ 60)
theorem f11 (b : Base) (hb : b.Ok) (f : List Item) (hf : f.length < 9223372036854775807) (H : Heap) : cal (evC cprog) false 11 [eBase b, eItems f] H = some (.bool (small b f), H) := by
  rw [cal_of at11]
  have h1 := (sTys [] b.types).len
  have h2 := (sItems [] f).len
  have h3 := (sSes [] b.indexes).len
  simp only [List.length_map] at h1 h2 h3
  simp only [c11, eBase, evX, Int.reduceEq, Int.reduceLT, Int.reduceLE, Nat.reduceMul, Nat.reduceMod, evW, fn_eq, evR, Nat.reduceAdd, Nat.reduceLT, Nat.reduceLeDiff, reduceIte, Nat.reduceEqDiff, reduceCtorEq, argEnv, eq_self, if_true, if_false]
  generalize hz : itLim _ _ = z
  have key : ∀ (H : Heap) (b1 : Nat), Sits H b1 (bBase b) → ∀ (st : St) (G : Heap), keepEnv st.1 [1, 2, 5] = [(1, eItems f), (2, .ptr b1 0 4 0 0), (5, .int .i64 0)] → st.2 = H ++ ([] ++ G) → ∀ z, itLim (evCode (evC cprog) itLim c11_l0) st = z →
      (b.types.all (fun t => decide ((t.fields.length : Int) ≤ 10)) = true ∧ Lv H [] (fun c T => c = .exit 0 ∧ keepEnv T [1, 2] = [(1, eItems f), (2, .ptr b1 0 4 0 0)]) z) ∨ (b.types.all (fun t => decide ((t.fields.length : Int) ≤ 10)) = false ∧ Lv H [] (fun c T => c = .ret ∧ get T 4 = some (.bool false)) z) := by
    intro H b1 hs st G hE hH z hz
    simp only [bBase, Sits] at hs
    exact all_rule b.types _ [1, 2, 5] (fun i => [(1, eItems f), (2, .ptr b1 0 4 0 0), (5, .int .i64 (i : Int))]) H [] (evCode (evC cprog) itLim c11_l0) _ _
      (fun i t hx E G hE => by
        have hlt : i < b.types.length := (List.getElem?_eq_some_iff.1 hx).1
        have hi : (i : Int) < (b.types.length : Int) := by omega
        have ha := aTy hx
        have h4 := (sFds [] t.fields).len
        simp only [List.length_map] at h4
        simp only [c11_l0, hE, hs, hi, h1, ha, h4, rTy, wrapS hlt hb.types, evX, Int.reduceEq, Int.reduceLT, Int.reduceLE, Nat.reduceMul, Nat.reduceMod, evW, fn_eq, evR, Nat.reduceAdd, Nat.reduceLT, Nat.reduceLeDiff, reduceIte, Nat.reduceEqDiff, reduceCtorEq, argEnv, eq_self, if_true, if_false]
        repeat' ((first | rw [guardK_cases] | rw [condK_bool] | rw [guardD_cases]); split <;> simp only [c11_l0, hE, hs, hi, h1, ha, h4, rTy, wrapS hlt hb.types, evX, Int.reduceEq, Int.reduceLT, Int.reduceLE, Nat.reduceMul, Nat.reduceMod, evW, evR, Nat.reduceAdd, Nat.reduceLT, Nat.reduceLeDiff, reduceIte, Nat.reduceEqDiff, reduceCtorEq, argEnv, eq_self, if_true, if_false, *])
        all_goals first | exact Sc.next (by first | (simp_all [Int.not_le]; done) | (simp_all [Int.not_le]; intros; omega)) (by rfl) | exact Sc.ret (by first | (simp_all [Int.not_le]; done) | (simp_all [Int.not_le]; intros; omega)) ⟨rfl, by first | rfl | exact ⟨rfl, rfl, rfl⟩⟩ | exact Sc.exit (by first | (simp_all [Int.not_le]; done) | (simp_all [Int.not_le]; intros; omega)) ⟨rfl, rfl⟩)
      (fun E G hE => by
        simp only [c11_l0, hE, hs, h1, Int.lt_irrefl, evX, Int.reduceEq, Int.reduceLT, Int.reduceLE, Nat.reduceMul, Nat.reduceMod, evW, fn_eq, evR, Nat.reduceAdd, Nat.reduceLT, Nat.reduceLeDiff, reduceIte, Nat.reduceEqDiff, reduceCtorEq, argEnv, eq_self, if_true, if_false]
        exact .exit (K := []) ⟨rfl, by rfl⟩) st G hE hH z hz
  have key2 : ∀ (H : Heap) (b1 : Nat), Sits H b1 (bBase b) → ∀ (st : St) (G : Heap), keepEnv st.1 [1, 2, 6] = [(1, eItems f), (2, .ptr b1 0 4 0 0), (6, .int .i64 0)] → st.2 = H ++ ([] ++ G) → ∀ z, itLim (evCode (evC cprog) itLim c11_l1) st = z →
      (f.all (fun x => decide ((x.data.size : Int) ≤ 100)) = true ∧ Lv H [] (fun c T => c = .exit 2 ∧ keepEnv T [1, 2] = [(1, eItems f), (2, .ptr b1 0 4 0 0)]) z) ∨ (f.all (fun x => decide ((x.data.size : Int) ≤ 100)) = false ∧ Lv H [] (fun c T => c = .ret ∧ get T 4 = some (.bool false)) z) := by
    intro H b1 hs st G hE hH z hz
    exact all_rule f _ [1, 2, 6] (fun i => [(1, eItems f), (2, .ptr b1 0 4 0 0), (6, .int .i64 (i : Int))]) H [] (evCode (evC cprog) itLim c11_l1) _ _
      (fun i t hx E G hE => by
        have hlt : i < f.length := (List.getElem?_eq_some_iff.1 hx).1
        have hi : (i : Int) < (f.length : Int) := by omega
        have ha := aItem hx
        simp only [c11_l1, hE, hi, h2, ha, rItem, wrapS hlt hf, evX, Int.reduceEq, Int.reduceLT, Int.reduceLE, Nat.reduceMul, Nat.reduceMod, evW, fn_eq, evR, Nat.reduceAdd, Nat.reduceLT, Nat.reduceLeDiff, reduceIte, Nat.reduceEqDiff, reduceCtorEq, argEnv, eq_self, if_true, if_false]
        repeat' ((first | rw [guardK_cases] | rw [condK_bool] | rw [guardD_cases]); split <;> simp only [c11_l1, hE, hi, h2, ha, rItem, wrapS hlt hf, evX, Int.reduceEq, Int.reduceLT, Int.reduceLE, Nat.reduceMul, Nat.reduceMod, evW, evR, Nat.reduceAdd, Nat.reduceLT, Nat.reduceLeDiff, reduceIte, Nat.reduceEqDiff, reduceCtorEq, argEnv, eq_self, if_true, if_false, *])
        all_goals first | exact Sc.next (by first | (simp_all [Int.not_le]; done) | (simp_all [Int.not_le]; intros; omega)) (by rfl) | exact Sc.ret (by first | (simp_all [Int.not_le]; done) | (simp_all [Int.not_le]; intros; omega)) ⟨rfl, by first | rfl | exact ⟨rfl, rfl, rfl⟩⟩ | exact Sc.exit (by first | (simp_all [Int.not_le]; done) | (simp_all [Int.not_le]; intros; omega)) ⟨rfl, rfl⟩)
      (fun E G hE => by
        simp only [c11_l1, hE, h2, Int.lt_irrefl, evX, Int.reduceEq, Int.reduceLT, Int.reduceLE, Nat.reduceMul, Nat.reduceMod, evW, fn_eq, evR, Nat.reduceAdd, Nat.reduceLT, Nat.reduceLeDiff, reduceIte, Nat.reduceEqDiff, reduceCtorEq, argEnv, eq_self, if_true, if_false]
        exact .exit (K := []) ⟨rfl, by rfl⟩) st G hE hH z hz
  have hs : ∀ X, (H ++ ([bBase b] ++ X))[H.length]? = some (bBase b) := fun X => by simp
  simp only [bBase] at hs
  rcases key (H ++ [bBase b]) H.length (.mk (by simp)) _ [] (by rfl) (by simp [bBase]) z hz with ⟨g, c, T, G', rfl, _, rfl, hT⟩ | ⟨g, c, T, G', rfl, _, rfl, hT⟩
  · simp only [hT, evX, Int.reduceEq, Int.reduceLT, Int.reduceLE, Nat.reduceMul, Nat.reduceMod, evW, fn_eq, evR, Nat.reduceAdd, Nat.reduceLT, Nat.reduceLeDiff, reduceIte, Nat.reduceEqDiff, reduceCtorEq, argEnv, eq_self, if_true, if_false]
    generalize hz : itLim _ _ = z
    rcases key2 (H ++ [bBase b]) H.length (.mk (by simp)) _ G' (by rfl) (by simp) z hz with ⟨g2, c, T, G', rfl, _, rfl, hT⟩ | ⟨g2, c, T, G', rfl, _, rfl, hT⟩
    · simp only [hT, hs, bBase, h1, h2, h3, evX, Int.reduceEq, Int.reduceLT, Int.reduceLE, Nat.reduceMul, Nat.reduceMod, evW, fn_eq, evR, Nat.reduceAdd, Nat.reduceLT, Nat.reduceLeDiff, reduceIte, Nat.reduceEqDiff, reduceCtorEq, argEnv, eq_self, if_true, if_false]
      repeat' ((first | rw [guardK_cases] | rw [condK_bool] | rw [guardD_cases]); split <;> simp only [hT, hs, bBase, h1, h2, h3, evX, Int.reduceEq, Int.reduceLT, Int.reduceLE, Nat.reduceMul, Nat.reduceMod, evW, evR, Nat.reduceAdd, Nat.reduceLT, Nat.reduceLeDiff, reduceIte, Nat.reduceEqDiff, reduceCtorEq, argEnv, eq_self, if_true, if_false, *])
      all_goals (simp_all [small]; try omega)
    · simp only [hT, evX, Int.reduceEq, Int.reduceLT, Int.reduceLE, Nat.reduceMul, Nat.reduceMod, evW, fn_eq, evR, Nat.reduceAdd, Nat.reduceLT, Nat.reduceLeDiff, reduceIte, Nat.reduceEqDiff, reduceCtorEq, argEnv, eq_self, if_true, if_false]
      simp [small, g2]
  · simp only [hT, evX, Int.reduceEq, Int.reduceLT, Int.reduceLE, Nat.reduceMul, Nat.reduceMod, evW, fn_eq, evR, Nat.reduceAdd, Nat.reduceLT, Nat.reduceLeDiff, reduceIte, Nat.reduceEqDiff, reduceCtorEq, argEnv, eq_self, if_true, if_false]
    simp [small, g]
end Go.Proofs.YtbdpceigmnpoaaaGreatDoor.Code

/- logic: in place of plain's Ru (First is not here). -/
set_option linter.unusedSimpArgs false
set_option linter.unusedVariables false
namespace Go.Proofs.YtbdpceigmnpoaaaGreatDoor.Code
end Go.Proofs.YtbdpceigmnpoaaaGreatDoor.Code

/- plain: the laws' arguments, opened. -/
set_option linter.unusedSimpArgs false
set_option linter.unusedVariables false
namespace Go.Proofs.YtbdpceigmnpoaaaGreatDoor.Code
open Go.Proofs.YtbdpceigmnpoaaaGreatDoor.Ev Go.RowKit

theorem typed {α : Type} {P : List AV → Prop} {enc : α → List AV} {Q : α → Prop} (h : ∀ r, P r → ∃ x, r = enc x ∧ Q x) : ∀ l : List (List AV), (∀ r ∈ l, P r) → ∃ xs : List α, l = xs.map enc ∧ ∀ x ∈ xs, Q x
  | [], _ => ⟨[], rfl, by simp⟩
  | r :: l, hl => by
    obtain ⟨x, rfl, hx⟩ := h r (hl r (List.mem_cons_self ..))
    obtain ⟨xs, rfl, hxs⟩ := typed h l fun r hr => hl r (List.mem_cons_of_mem _ hr)
    exact ⟨x :: xs, rfl, fun y hy => by (rcases List.mem_cons.1 hy with rfl | hy; exact hx; exact hxs y hy)⟩
theorem reach_lt {n : Nat} (h : n ≤ reachBytes) : n < 9223372036854775807 := by unfold reachBytes at h; omega
theorem open_Fd {r : List AV} (h : HasL [.str, .int .i64, .int .i64] r) : ∃ x : Fd, r = rFd x ∧ x.Ok := by
  simp only [HasL.eq_2, HasL.eq_1, Has] at h
  obtain ⟨x, xs, rfl, ⟨s, rfl, hs⟩, y, ys, rfl, ⟨f, rfl, _⟩, z, zs, rfl, ⟨o, rfl, _⟩, rfl⟩ := h
  exact ⟨⟨s, f, o⟩, rfl, ⟨reach_lt hs⟩⟩
theorem open_Se {r : List AV} (h : HasL [.str, .int .i64, .int .i64, .str] r) : ∃ x : Se, r = rSe x ∧ x.Ok := by
  simp only [HasL.eq_2, HasL.eq_1, Has] at h
  obtain ⟨x, xs, rfl, ⟨s, rfl, hs⟩, y, ys, rfl, ⟨f, rfl, _⟩, z, zs, rfl, ⟨o, rfl, _⟩, w, ws, rfl, ⟨p, rfl, hp⟩, rfl⟩ := h
  exact ⟨⟨s, f, o, p⟩, rfl, ⟨reach_lt hs, reach_lt hp⟩⟩
theorem open_Item {r : List AV} (h : HasL [.int .i64, .str] r) : ∃ x : Item, r = rItem x ∧ True := by
  simp only [HasL.eq_2, HasL.eq_1, Has] at h
  obtain ⟨x, xs, rfl, ⟨s, rfl, _⟩, y, ys, rfl, ⟨f, rfl, _⟩, rfl⟩ := h
  exact ⟨⟨s, f⟩, rfl, trivial⟩
theorem open_Ty {r : List AV} (h : HasL [.str, .int .i64, .int .i64, .int .i64, .sl [.str, .int .i64, .int .i64], .int .i64, .bool, .bool] r) : ∃ x : Ty, r = rTy x ∧ x.Ok := by
  simp only [HasL.eq_2, HasL.eq_1, Has] at h
  obtain ⟨_, _, rfl, ⟨a, rfl, ha⟩, _, _, rfl, ⟨b, rfl, _⟩, _, _, rfl, ⟨c, rfl, _⟩, _, _, rfl, ⟨d, rfl, _⟩, _, _, rfl, ⟨l, rfl, hl, hr⟩, _, _, rfl, ⟨e, rfl, _⟩, _, _, rfl, ⟨f, rfl⟩, _, _, rfl, ⟨g, rfl⟩, rfl⟩ := h
  obtain ⟨fs, rfl, hq⟩ := typed (P := HasL [.str, .int .i64, .int .i64]) (fun r h => open_Fd h) l (fun r h => by simpa only [HasL.eq_2, HasL.eq_1, Has] using hr r h)
  exact ⟨⟨a, b, c, d, fs, e, f, g⟩, rfl, ⟨reach_lt ha, reach_lt (by simpa using hl), hq⟩⟩
theorem open_Base {a : AV} (h : ArgTy true [.str, .int .i64, .sl [.str, .int .i64, .int .i64, .int .i64, .sl [.str, .int .i64, .int .i64], .int .i64, .bool, .bool], .sl [.str, .int .i64, .int .i64, .str]] a) : ∃ b : Base, a = eBase b ∧ b.Ok := by
  obtain ⟨bs, rfl, h⟩ := h
  simp only [HasL.eq_2, HasL.eq_1, Has] at h
  obtain ⟨_, _, rfl, ⟨n, rfl, hn⟩, _, _, rfl, ⟨k, rfl, _⟩, _, _, rfl, ⟨l, rfl, hl, hr⟩, _, _, rfl, ⟨l', rfl, hl', hr'⟩, rfl⟩ := h
  obtain ⟨ts, rfl, hq⟩ := typed (P := HasL [.str, .int .i64, .int .i64, .int .i64, .sl [.str, .int .i64, .int .i64], .int .i64, .bool, .bool]) (fun r h => open_Ty h) l (fun r h => by simpa only [HasL.eq_2, HasL.eq_1, Has] using hr r h)
  obtain ⟨xs, rfl, hq'⟩ := typed (P := HasL [.str, .int .i64, .int .i64, .str]) (fun r h => open_Se h) l' (fun r h => by simpa only [HasL.eq_2, HasL.eq_1, Has] using hr' r h)
  exact ⟨⟨n, k, ts, xs⟩, rfl, ⟨reach_lt hn, reach_lt (by simpa using hl), hq, reach_lt (by simpa using hl'), hq'⟩⟩
theorem open_Items {a : AV} (h : ArgTy false [.sl [.int .i64, .str]] a) : ∃ l : List Item, a = eItems l ∧ l.length < 9223372036854775807 := by
  have h : HasL [.sl [.int .i64, .str]] [a] := h
  simp only [HasL.eq_2, HasL.eq_1, Has] at h
  obtain ⟨x, xs, he, ⟨l, rfl, hl, hr⟩, rfl⟩ := h
  cases he
  obtain ⟨us, rfl, _⟩ := typed (P := HasL [.int .i64, .str]) (fun r h => open_Item h) l (fun r h => by simpa only [HasL.eq_2, HasL.eq_1, Has] using hr r h)
  exact ⟨us, rfl, reach_lt (by simpa using hl)⟩
end Go.Proofs.YtbdpceigmnpoaaaGreatDoor.Code

/- plain: ends of subtrees (mathematics). -/
set_option linter.unusedSimpArgs false
set_option linter.unusedVariables false
namespace Go.Proofs.YtbdpceigmnpoaaaGreatDoor.Code
open Go.Proofs.YtbdpceigmnpoaaaGreatDoor.Ev

/-- a base and a forest that are right -/
structure Right (b : Base) (f : List Item) : Prop where
  base : b.Ok
  valid : validB b = true
  forest : forestOk b.types f = true
theorem Right.tys {b : Base} {f : List Item} (h : Right b f) : tysOk b.types = true := valid_tys h.valid
theorem Right.len {b : Base} {f : List Item} (h : Right b f) : f.length ≤ 200 := by
  have := h.forest
  simp only [forestOk, Bool.and_eq_true, decide_eq_true_eq] at this
  omega
theorem Right.ok {b : Base} {f : List Item} (h : Right b f) : FOk b.types f f.length := fun j x _ hx => by
  have := h.forest
  simp only [forestOk, Bool.and_eq_true] at this
  exact tell_true.1 this.2 j x hx
theorem Right.fits {b : Base} {f : List Item} (h : Right b f) : AllFit b.types f := fun i x hx => ok_fits (h.ok i x (List.getElem?_eq_some_iff.1 hx).1 hx)
/-- an item has a type -/
theorem Right.item {b : Base} {f : List Item} (h : Right b f) {i : Nat} (hi : i < f.length) : ∃ (x : Item) (k : Nat) (t : Ty), f[i]? = some x ∧ x.type = (k : Int) ∧ k < b.types.length ∧ b.types[k]? = some t ∧ tyOk t = true ∧ t.min ≤ x.data.size ∧ (x.data.size : Int) ≤ t.size := by
  obtain ⟨x, hx⟩ : ∃ x, f[i]? = some x := ⟨_, List.getElem?_eq_getElem hi⟩
  obtain ⟨k, t, h1, h2, h3, h4, h5⟩ := fits_some (h.fits i x hx)
  have hty : tyOk t = true := by have := tell_true.1 h.tys k t h3; simp only [tyAt, Bool.and_eq_true] at this; exact this.1.1.1
  exact ⟨x, k, t, hx, h1, h2, h3, hty, h4, h5⟩
/-- the parent of an item -/
theorem Right.par {b : Base} {f : List Item} (h : Right b f) {i : Nat} {x : Item} {k : Nat} {t : Ty} (hx : f[i]? = some x) (hk : x.type = (k : Int)) (ht : b.types[k]? = some t) :
    (t.parent < 0 ∧ par b.types f i = -1 ∧ k = 0) ∨ ∃ p : Nat, par b.types f i = (p : Int) ∧ p < i ∧ (p : Int) ∈ way b.types f i ∧ 0 ≤ t.parent ∧ t.parent < (k : Int) ∧ typ f (p : Int) = t.parent := by
  have hi := (List.getElem?_eq_some_iff.1 hx).1
  have hpt : tpar b.types x.type = t.parent := by rw [hk, tpar_at ht]
  by_cases hp : t.parent < 0
  · exact .inl ⟨hp, by unfold Code.par; rw [typ_at hx, hpt, if_pos hp], (tys_root h.tys ht).1 hp⟩
  · have hok := h.ok i x hi hx
    simp only [okAt, Bool.and_eq_true, Bool.or_eq_true, decide_eq_true_eq, tell_true, hpt] at hok
    have hm : Code.par b.types f i ∈ way b.types f i := by rcases hok.1.2 with h1 | h1; (· omega); exact h1
    have hb := way_bound hm
    have hg := tys_good h.tys k t (List.getElem?_eq_some_iff.1 ht).1 ht
    refine .inr ⟨(Code.par b.types f i).toNat, by omega, by omega, by rw [Int.toNat_of_nonneg hb.1]; exact hm, by omega, by omega, ?_⟩
    rw [Int.toNat_of_nonneg hb.1, (par_typ hb.1).1, typ_at hx, hpt]
/-- the way of an item is as long as that of its type -/
theorem pth_len {b : Base} {f : List Item} (h : Right b f) : ∀ (n i : Nat), i ≤ n → i < f.length → (pth b.types f i).length = (anc b.types (typ f (i : Int)).toNat).length := by
  intro n
  induction n with
  | zero =>
    intro i hn hi
    obtain rfl : i = 0 := by omega
    obtain ⟨x, k, t, hx, hk, hkl, ht, _⟩ := h.item hi
    rw [pth_eq _ _ hi, typ_at hx, hk, Int.toNat_natCast, anc_step (tys_good h.tys) hkl ht]
    rcases h.par hx hk ht with ⟨h1, h2, _⟩ | ⟨p, h1, h2, _⟩
    · rw [h2, pthI_neg _ _ (by omega), ancI_neg _ h1]; rfl
    · omega
  | succ n ih =>
    intro i hn hi
    obtain ⟨x, k, t, hx, hk, hkl, ht, _⟩ := h.item hi
    rw [pth_eq _ _ hi, typ_at hx, hk, Int.toNat_natCast, anc_step (tys_good h.tys) hkl ht]
    rcases h.par hx hk ht with ⟨h1, h2, _⟩ | ⟨p, h1, h2, _, h4, _, h6⟩
    · rw [h2, pthI_neg _ _ (by omega), ancI_neg _ h1]; rfl
    · have := ih p (by omega) (by omega)
      rw [h6] at this
      obtain ⟨q, hq⟩ : ∃ q : Nat, t.parent = (q : Int) := ⟨t.parent.toNat, by omega⟩
      rw [hq, Int.toNat_natCast] at this
      rw [h1, pthI_nat, hq, ancI_nat]
      simp [this]
/-- behind the subtree of an item -/
structure IsEnd (ts : List Ty) (f : List Item) (i e : Nat) : Prop where
  lt : i < e
  le : e ≤ f.length
  all : ∀ k : Nat, i < k → k < e → (i : Int) ∈ pth ts f k
  no : e < f.length → (i : Int) ∉ pth ts f e
/-- what is ahead of a place in a subtree is in that subtree -/
theorem IsEnd.way {ts : List Ty} {f : List Item} {i e : Nat} (hall : ∀ k : Nat, i < k → k < e → (i : Int) ∈ pth ts f k) {k : Nat} (h1 : i < k) (h2 : k ≤ e) : (i : Int) ∈ way ts f k := by
  obtain ⟨k, rfl⟩ : ∃ j, k = j + 1 := ⟨k - 1, by omega⟩
  change (i : Int) ∈ pth ts f k
  by_cases e' : k = i
  · subst e'; exact pth_self ts f k
  · exact hall k (by omega) (by omega)
end Go.Proofs.YtbdpceigmnpoaaaGreatDoor.Code

/- plain: what is asked of bases, forests and places; parents, depths and ends. -/
set_option linter.unusedSimpArgs false
set_option linter.unusedVariables false
namespace Go.Proofs.YtbdpceigmnpoaaaGreatDoor.Code
open Go.Proofs.YtbdpceigmnpoaaaGreatDoor.Ev

def outOf (f : List Item) (i : Int) : Bool := decide (i < 0) || decide ((f.length : Int) ≤ i)
noncomputable def errF (b : Base) (f : List Item) (l : List Int) : Int := if validB b = true then (if forestOk b.types f = true then (if l.any (outOf f) = true then 2 else 0) else 120) else 100
theorem slI {H : Heap} {a : AV} {l : List Int} (h : SlAt H 1 a (l.map rI)) {i : Nat} {n : Int} (hi : l[i]? = some n) : ∃ p, iaddrK 1 (some a) (some (.int .i64 (i : Int))) = some p ∧ ∀ X, loadK false 1 (H ++ X) (some p) = some (.int .i64 n) := by
  obtain ⟨_, p, h1, h2⟩ := h.get i (rI n) (by rw [List.getElem?_map, hi]; rfl)
  exact ⟨p, h1, fun X => h2.onex X⟩
theorem f19 (b : Base) (hb : b.Ok) (f : List Item) (hfl : f.length < 9223372036854775807) (a : AV) (l : List Int) (hl : l.length < 9223372036854775807) (H : Heap) (ha : SlAt H 1 a (l.map rI)) : cal (evC cprog) false 19 [eBase b, eItems f, a] H = some (.int .i64 (errF b f l), H) := by
  rw [cal_of at19]
  have h1 := f43 b hb
  simp only [eBase] at h1
  have hlen := (sItems [] f).len
  have hlen' := ha.len
  simp only [List.length_map] at hlen hlen'
  cases hv : validB b with
  | false =>
    simp only [c19, eBase, h1, hv, evX, Int.reduceEq, Int.reduceLT, Int.reduceLE, Nat.reduceMul, Nat.reduceMod, evW, fn_eq, evR, Nat.reduceAdd, Nat.reduceLT, Nat.reduceLeDiff, reduceIte, Nat.reduceEqDiff, reduceCtorEq, argEnv, eq_self, if_true, if_false]
    simp [errF, hv]
  | true =>
    have h2 := f49 b (valid_tys hv) f
    simp only [eBase] at h2
    cases hf : forestOk b.types f with
    | false =>
      simp only [c19, eBase, h1, hv, h2, hf, evX, Int.reduceEq, Int.reduceLT, Int.reduceLE, Nat.reduceMul, Nat.reduceMod, evW, fn_eq, evR, Nat.reduceAdd, Nat.reduceLT, Nat.reduceLeDiff, reduceIte, Nat.reduceEqDiff, reduceCtorEq, argEnv, eq_self, if_true, if_false]
      simp [errF, hv, hf]
    | true =>
      simp only [c19, eBase, h1, hv, h2, hf, evX, Int.reduceEq, Int.reduceLT, Int.reduceLE, Nat.reduceMul, Nat.reduceMod, evW, fn_eq, evR, Nat.reduceAdd, Nat.reduceLT, Nat.reduceLeDiff, reduceIte, Nat.reduceEqDiff, reduceCtorEq, argEnv, eq_self, if_true, if_false]
      generalize hz : itLim _ _ = z
      have L := all_rule l (fun i => !outOf f i) [1, 2, 7] (fun i => [(1, eItems f), (2, a), (7, .int .i64 (i : Int))]) H [bBase b] (evCode (evC cprog) itLim c19_l0) (fun c T => c = .exit 1) (fun c T => c = .ret ∧ get T 6 = some (.int .i64 2))
        (fun i x hx E G hE => by
          have hlt : i < l.length := (List.getElem?_eq_some_iff.1 hx).1
          have hi : (i : Int) < (l.length : Int) := by omega
          obtain ⟨p, g1, g2⟩ := slI ha hx
          have hw := wrapS hlt hl
          by_cases n1 : x < 0
          · simp only [c19_l0, hE, hi, hlen', g1, g2, n1, evX, Int.reduceEq, Int.reduceLT, Int.reduceLE, Nat.reduceMul, Nat.reduceMod, evW, fn_eq, evR, Nat.reduceAdd, Nat.reduceLT, Nat.reduceLeDiff, reduceIte, Nat.reduceEqDiff, reduceCtorEq, argEnv, eq_self, if_true, if_false]
            exact Sc.ret (by simp [outOf, n1]) ⟨rfl, rfl⟩
          by_cases n2 : (f.length : Int) ≤ x
          · simp only [c19_l0, hE, hi, hlen', hlen, g1, g2, n1, n2, evX, Int.reduceEq, Int.reduceLT, Int.reduceLE, Nat.reduceMul, Nat.reduceMod, evW, fn_eq, evR, Nat.reduceAdd, Nat.reduceLT, Nat.reduceLeDiff, reduceIte, Nat.reduceEqDiff, reduceCtorEq, argEnv, eq_self, if_true, if_false]
            exact Sc.ret (by simp [outOf, n2]) ⟨rfl, rfl⟩
          · simp only [c19_l0, hE, hi, hlen', hlen, g1, g2, n1, n2, hw, evX, Int.reduceEq, Int.reduceLT, Int.reduceLE, Nat.reduceMul, Nat.reduceMod, evW, fn_eq, evR, Nat.reduceAdd, Nat.reduceLT, Nat.reduceLeDiff, reduceIte, Nat.reduceEqDiff, reduceCtorEq, argEnv, eq_self, if_true, if_false]
            exact Sc.next (by simp [outOf]; omega) (by rfl))
        (fun E G hE => by
          simp only [c19_l0, hE, hlen', Int.lt_irrefl, evX, Int.reduceEq, Int.reduceLT, Int.reduceLE, Nat.reduceMul, Nat.reduceMod, evW, fn_eq, evR, Nat.reduceAdd, Nat.reduceLT, Nat.reduceLeDiff, reduceIte, Nat.reduceEqDiff, reduceCtorEq, argEnv, eq_self, if_true, if_false]
          exact .exit (K := [bBase b]) rfl) _ [] (by rfl) (by simp [bBase]) z hz
      rcases L with ⟨ha, c, T, G, rfl, _, rfl⟩ | ⟨ha, c, T, G, rfl, _, rfl, hT⟩
      · simp only [evX, Int.reduceEq, Int.reduceLT, Int.reduceLE, Nat.reduceMul, Nat.reduceMod, evW, fn_eq, evR, Nat.reduceAdd, Nat.reduceLT, Nat.reduceLeDiff, reduceIte, Nat.reduceEqDiff, reduceCtorEq, argEnv, eq_self, if_true, if_false]
        have : l.any (outOf f) = false := by rw [List.any_eq_false]; intro x hx; have := List.all_eq_true.1 ha x hx; simpa using this
        simp [errF, hv, hf, this]
      · simp only [hT, evX, Int.reduceEq, Int.reduceLT, Int.reduceLE, Nat.reduceMul, Nat.reduceMod, evW, fn_eq, evR, Nat.reduceAdd, Nat.reduceLT, Nat.reduceLeDiff, reduceIte, Nat.reduceEqDiff, reduceCtorEq, argEnv, eq_self, if_true, if_false]
        have : l.any (outOf f) = true := by
          obtain ⟨x, hx, h⟩ := List.all_eq_false.1 ha
          rw [List.any_eq_true]; exact ⟨x, hx, by simpa using h⟩
        simp [errF, hv, hf, this]
end Go.Proofs.YtbdpceigmnpoaaaGreatDoor.Code

/- plain: ends of subtrees, of the program and of the document. -/
set_option linter.unusedSimpArgs false
set_option linter.unusedVariables false
namespace Go.Proofs.YtbdpceigmnpoaaaGreatDoor.Code
open Go.Proofs.YtbdpceigmnpoaaaGreatDoor.Ev

theorem anc_len8 {b : Base} {f : List Item} (h : Right b f) {k : Nat} (hk : k < b.types.length) : (anc b.types k).length ≤ 5 ∧ b.types.length ≤ 8 := by
  obtain ⟨t, ht⟩ : ∃ t, b.types[k]? = some t := ⟨_, List.getElem?_eq_getElem hk⟩
  have h1 := tell_true.1 h.tys k t ht
  simp only [tyAt, Bool.and_eq_true, decide_eq_true_eq] at h1
  have h2 := h.valid
  simp only [validB, areTys, Bool.and_eq_true, decide_eq_true_eq] at h2
  omega
theorem f89r (b : Base) (f : List Item) (hr : Right b f) (i : Nat) (hi : i < f.length) (H : Heap) : cal (evC cprog) false 89 [eBase b, eItems f, .int .i64 (i : Int)] H = some (.int .i64 (par b.types f i), H) := by
  obtain ⟨x, k, t, hx, hk, hkl, ht, _⟩ := hr.item hi
  exact f89 b f i x hx k t hk ht (by have := hr.len; omega) H
end Go.Proofs.YtbdpceigmnpoaaaGreatDoor.Code

/- plain: Delete, of the program and of the document. -/
set_option linter.unusedSimpArgs false
set_option linter.unusedVariables false
namespace Go.Proofs.YtbdpceigmnpoaaaGreatDoor.Code
open Go.Proofs.YtbdpceigmnpoaaaGreatDoor.Ev

theorem plain_items (l : List Item) : Plain (l.map rItem) := fz_rItem l
theorem plain_ints (l : List Int) : Plain (l.map rI) := fz_rI l
theorem errF_zero {b : Base} {f : List Item} {l : List Int} (hb : b.Ok) (h : errF b f l = 0) : Right b f ∧ ∀ i ∈ l, 0 ≤ i ∧ i < (f.length : Int) := by
  unfold errF at h
  split at h
  · rename_i hv
    split at h
    · rename_i hf
      split at h
      · cases h
      · rename_i ho
        refine ⟨⟨hb, hv, hf⟩, fun i hi => ?_⟩
        have := List.any_eq_false.1 (Bool.eq_false_iff.2 ho) i hi
        simp only [outOf, Bool.or_eq_true, decide_eq_true_eq] at this
        omega
    · cases h
  · cases h
theorem one_slat (H : Heap) (n : Int) (X : Heap) : SlAt (H ++ (X ++ [⟨0, true, 3, 1, [[.int .i64 n]]⟩])) 1 (.ref (H.length + X.length) 0 1 0 1) ([n].map rI) := by
  refine .ref (rows := [rI n]) (k := ⟨0, true, 3, 1, [[.int .i64 n]]⟩) ?_ fun i row hi => ?_
  · simp [curBlk, at_app]
  · cases i with
    | zero => simp at hi; subst hi; exact ⟨rfl, rfl⟩
    | succ i => simp at hi
end Go.Proofs.YtbdpceigmnpoaaaGreatDoor.Code

