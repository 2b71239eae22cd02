/- plain: what a base is; names and fields. -/
import Derived.Test.YtcbmakanokmdjaaCode
import Derived.Test.YtcbmakanokmdjaaEvX
set_option linter.unusedSimpArgs false
set_option linter.unusedVariables false
namespace Go.Proofs.Ytcbmakanokmdjaa.Code
open Go.Proofs.Ytcbmakanokmdjaa.Ev

structure Fd where
  name : ByteArray
  at' : Int
  bytes : Int
structure Ty where
  name : ByteArray
  parent : Int
  min : Int
  size : Int
  fields : List Fd
  key : Int
  unique : Bool
  last : Bool
structure Se where
  name : ByteArray
  type : Int
  field : Int
  sparse : ByteArray
structure Base where
  name : ByteArray
  kind : Int
  types : List Ty
  indexes : List Se
structure Item where
  type : Int
  data : ByteArray
def rFd (f : Fd) : List AV := [.str f.name, .int .i64 f.at', .int .i64 f.bytes]
def eFds (l : List Fd) : AV := .lst (l.map rFd)
def rTy (t : Ty) : List AV := [.str t.name, .int .i64 t.parent, .int .i64 t.min, .int .i64 t.size, eFds t.fields, .int .i64 t.key, .bool t.unique, .bool t.last]
def eTys (l : List Ty) : AV := .lst (l.map rTy)
def rSe (x : Se) : List AV := [.str x.name, .int .i64 x.type, .int .i64 x.field, .str x.sparse]
def eSes (l : List Se) : AV := .lst (l.map rSe)
def eBase (b : Base) : AV := .agg [.str b.name, .int .i64 b.kind, eTys b.types, eSes b.indexes]
def rItem (x : Item) : List AV := [.int .i64 x.type, .str x.data]
def eItems (l : List Item) : AV := .lst (l.map rItem)
/-- what a machine's memory bounds -/
def lim : Nat := 9223372036854775807
structure Fd.Ok (f : Fd) : Prop where
  name : f.name.size < 9223372036854775807
structure Ty.Ok (t : Ty) : Prop where
  name : t.name.size < 9223372036854775807
  fields : t.fields.length < 9223372036854775807
  field : ∀ f ∈ t.fields, f.Ok
structure Se.Ok (x : Se) : Prop where
  name : x.name.size < 9223372036854775807
  sparse : x.sparse.size < 9223372036854775807
structure Base.Ok (b : Base) : Prop where
  name : b.name.size < 9223372036854775807
  types : b.types.length < 9223372036854775807
  type : ∀ t ∈ b.types, t.Ok
  indexes : b.indexes.length < 9223372036854775807
  index : ∀ x ∈ b.indexes, x.Ok

def letter (c : UInt8) : Bool := decide ((65 : Int) ≤ c.toNat) && decide ((c.toNat : Int) ≤ 90)
def digit (c : UInt8) : Bool := decide ((48 : Int) ≤ c.toNat) && decide ((c.toNat : Int) ≤ 57)
def nameOk (i : Nat) (c : UInt8) : Bool := letter c || (decide (i ≠ 0) && digit c)
noncomputable def isName (s : ByteArray) : Bool := tell (∀ (i : Nat) (c : UInt8), s.data.toList[i]? = some c → nameOk i c = true) && decide ((1 : Int) ≤ s.size) && decide ((s.size : Int) ≤ 8)
theorem idx_at (s : ByteArray) {i : Nat} {c : UInt8} (h : s.data.toList[i]? = some c) : idxK (some (.str s)) (some (.int .i64 (i : Int))) = some (.int .u8 (c.toNat : Int)) := by
  have hn : asNat (.int .i64 (i : Int)) = some i := by simp [asNat]
  simp only [idxK, hn, byteK, h]
theorem size_eq (s : ByteArray) : s.data.toList.length = s.size := Array.length_toList
theorem f54 (s : ByteArray) (hs : s.size < 9223372036854775807) (H : Heap) : cal (evC cprog) false 54 [.str s] H = some (.bool (isName s), H) := by
  rw [cal_of at54]
  simp only [c54, evX, Int.reduceEq, Int.reduceLT, Int.reduceLE, Nat.reduceMul, Nat.reduceMod, evW, fn_eq, evR, Nat.reduceAdd, Nat.reduceLT, Nat.reduceLeDiff, reduceIte, Nat.reduceEqDiff, reduceCtorEq, argEnv, eq_self, if_true, if_false]
  repeat' ((first | rw [guardK_cases] | rw [condK_bool] | rw [guardD_cases]); split <;> simp only [c54, evX, Int.reduceEq, Int.reduceLT, Int.reduceLE, Nat.reduceMul, Nat.reduceMod, evW, evR, Nat.reduceAdd, Nat.reduceLT, Nat.reduceLeDiff, reduceIte, Nat.reduceEqDiff, reduceCtorEq, argEnv, eq_self, if_true, if_false, *])
  generalize hz : itLim _ _ = z
  have L := scan_rule s.data.toList nameOk [0, 6, 7] (fun i => [(0, .str s), (6, .int .i64 (s.size : Int)), (7, .int .i64 (i : Int))]) H [] (evCode (evC cprog) itLim c54_l0) (fun c T => c = .exit 0 ∧ keepEnv T [0] = [(0, .str s)]) (fun _ _ c T => c = .ret ∧ get T 2 = some (.bool false))
    (fun i c hx E G hE => by
      have hlt : i < s.size := by rw [← size_eq]; exact (List.getElem?_eq_some_iff.1 hx).1
      have hi : (i : Int) < (s.size : Int) := by omega
      have hc := idx_at s hx
      simp only [c54_l0, hE, hi, hc, wrapS hlt hs, evX, Int.reduceEq, Int.reduceLT, Int.reduceLE, Nat.reduceMul, Nat.reduceMod, evW, fn_eq, evR, Nat.reduceAdd, Nat.reduceLT, Nat.reduceLeDiff, reduceIte, Nat.reduceEqDiff, reduceCtorEq, argEnv, eq_self, if_true, if_false]
      repeat' ((first | rw [guardK_cases] | rw [condK_bool] | rw [guardD_cases]); split <;> simp only [c54_l0, hE, hi, hc, wrapS hlt hs, evX, Int.reduceEq, Int.reduceLT, Int.reduceLE, Nat.reduceMul, Nat.reduceMod, evW, evR, Nat.reduceAdd, Nat.reduceLT, Nat.reduceLeDiff, reduceIte, Nat.reduceEqDiff, reduceCtorEq, argEnv, eq_self, if_true, if_false, *])
      all_goals first | exact Sc.next (by first | (simp_all [nameOk, letter, digit]; done) | (simp_all [nameOk, letter, digit]; intros; omega)) (by rfl) | exact Sc.ret (by first | (simp_all [nameOk, letter, digit]; done) | (simp_all [nameOk, letter, digit]; intros; omega)) ⟨rfl, by first | rfl | exact ⟨rfl, rfl, rfl⟩⟩ | exact Sc.exit (by first | (simp_all [nameOk, letter, digit]; done) | (simp_all [nameOk, letter, digit]; intros; omega)) ⟨rfl, rfl⟩)
    (fun E G hE => by
      rw [size_eq] at hE
      simp only [c54_l0, hE, Int.lt_irrefl, evX, Int.reduceEq, Int.reduceLT, Int.reduceLE, Nat.reduceMul, Nat.reduceMod, evW, fn_eq, evR, Nat.reduceAdd, Nat.reduceLT, Nat.reduceLeDiff, reduceIte, Nat.reduceEqDiff, reduceCtorEq, argEnv, eq_self, if_true, if_false]
      repeat' ((first | rw [guardK_cases] | rw [condK_bool] | rw [guardD_cases]); split <;> simp only [c54_l0, hE, Int.lt_irrefl, evX, Int.reduceEq, Int.reduceLT, Int.reduceLE, Nat.reduceMul, Nat.reduceMod, evW, evR, Nat.reduceAdd, Nat.reduceLT, Nat.reduceLeDiff, reduceIte, Nat.reduceEqDiff, reduceCtorEq, argEnv, eq_self, if_true, if_false, *])
      exact .exit (K := []) ⟨rfl, by rfl⟩) _ [] (by rfl) (by simp) z hz
  rcases L with ⟨ha, c, T, G, rfl, _, rfl, hT⟩ | ⟨i, r, hx, ha, _, c, T, G, rfl, _, rfl, hT⟩
  · simp only [hT, evX, Int.reduceEq, Int.reduceLT, Int.reduceLE, Nat.reduceMul, Nat.reduceMod, evW, fn_eq, evR, Nat.reduceAdd, Nat.reduceLT, Nat.reduceLeDiff, reduceIte, Nat.reduceEqDiff, reduceCtorEq, argEnv, eq_self, if_true, if_false]
    repeat' ((first | rw [guardK_cases] | rw [condK_bool] | rw [guardD_cases]); split <;> simp only [hT, evX, Int.reduceEq, Int.reduceLT, Int.reduceLE, Nat.reduceMul, Nat.reduceMod, evW, evR, Nat.reduceAdd, Nat.reduceLT, Nat.reduceLeDiff, reduceIte, Nat.reduceEqDiff, reduceCtorEq, argEnv, eq_self, if_true, if_false, *])
    all_goals (simp_all [isName, tell_pos]; try (intros; omega))
  · simp only [hT, evX, Int.reduceEq, Int.reduceLT, Int.reduceLE, Nat.reduceMul, Nat.reduceMod, evW, fn_eq, evR, Nat.reduceAdd, Nat.reduceLT, Nat.reduceLeDiff, reduceIte, Nat.reduceEqDiff, reduceCtorEq, argEnv, eq_self, if_true, if_false]
    repeat' ((first | rw [guardK_cases] | rw [condK_bool] | rw [guardD_cases]); split <;> simp only [hT, evX, Int.reduceEq, Int.reduceLT, Int.reduceLE, Nat.reduceMul, Nat.reduceMod, evW, evR, Nat.reduceAdd, Nat.reduceLT, Nat.reduceLeDiff, reduceIte, Nat.reduceEqDiff, reduceCtorEq, argEnv, eq_self, if_true, if_false, *])
    have : isName s = false := by
      unfold isName
      rw [tell_neg fun h => by rw [h i r hx] at ha; cases ha]; rfl
    rw [this]
theorem f60 (s : ByteArray) (hs : s.size < 9223372036854775807) (H : Heap) : cal (evC cprog) false 60 [.str s] H = some (.bool (isName s), H) := by
  rw [cal_of at60]
  simp only [c60, evX, Int.reduceEq, Int.reduceLT, Int.reduceLE, Nat.reduceMul, Nat.reduceMod, evW, fn_eq, evR, Nat.reduceAdd, Nat.reduceLT, Nat.reduceLeDiff, reduceIte, Nat.reduceEqDiff, reduceCtorEq, argEnv, eq_self, if_true, if_false]
  repeat' ((first | rw [guardK_cases] | rw [condK_bool] | rw [guardD_cases]); split <;> simp only [c60, evX, Int.reduceEq, Int.reduceLT, Int.reduceLE, Nat.reduceMul, Nat.reduceMod, evW, evR, Nat.reduceAdd, Nat.reduceLT, Nat.reduceLeDiff, reduceIte, Nat.reduceEqDiff, reduceCtorEq, argEnv, eq_self, if_true, if_false, *])
  generalize hz : itLim _ _ = z
  have L := scan_rule s.data.toList nameOk [0, 3] (fun i => [(0, .str s), (3, .int .i64 (i : Int))]) H [] (evCode (evC cprog) itLim c60_l0) (fun c T => c = .exit 0 ∧ keepEnv T [0] = [(0, .str s)]) (fun _ _ c T => c = .ret ∧ get T 2 = some (.bool false))
    (fun i c hx E G hE => by
      have hlt : i < s.size := by rw [← size_eq]; exact (List.getElem?_eq_some_iff.1 hx).1
      have hi : (i : Int) < (s.size : Int) := by omega
      have hc := idx_at s hx
      simp only [c60_l0, hE, hi, hc, wrapS hlt hs, evX, Int.reduceEq, Int.reduceLT, Int.reduceLE, Nat.reduceMul, Nat.reduceMod, evW, fn_eq, evR, Nat.reduceAdd, Nat.reduceLT, Nat.reduceLeDiff, reduceIte, Nat.reduceEqDiff, reduceCtorEq, argEnv, eq_self, if_true, if_false]
      repeat' ((first | rw [guardK_cases] | rw [condK_bool] | rw [guardD_cases]); split <;> simp only [c60_l0, hE, hi, hc, wrapS hlt hs, evX, Int.reduceEq, Int.reduceLT, Int.reduceLE, Nat.reduceMul, Nat.reduceMod, evW, evR, Nat.reduceAdd, Nat.reduceLT, Nat.reduceLeDiff, reduceIte, Nat.reduceEqDiff, reduceCtorEq, argEnv, eq_self, if_true, if_false, *])
      all_goals first | exact Sc.next (by first | (simp_all [nameOk, letter, digit]; done) | (simp_all [nameOk, letter, digit]; intros; omega)) (by rfl) | exact Sc.ret (by first | (simp_all [nameOk, letter, digit]; done) | (simp_all [nameOk, letter, digit]; intros; omega)) ⟨rfl, by first | rfl | exact ⟨rfl, rfl, rfl⟩⟩ | exact Sc.exit (by first | (simp_all [nameOk, letter, digit]; done) | (simp_all [nameOk, letter, digit]; intros; omega)) ⟨rfl, rfl⟩)
    (fun E G hE => by
      rw [size_eq] at hE
      simp only [c60_l0, hE, Int.lt_irrefl, evX, Int.reduceEq, Int.reduceLT, Int.reduceLE, Nat.reduceMul, Nat.reduceMod, evW, fn_eq, evR, Nat.reduceAdd, Nat.reduceLT, Nat.reduceLeDiff, reduceIte, Nat.reduceEqDiff, reduceCtorEq, argEnv, eq_self, if_true, if_false]
      repeat' ((first | rw [guardK_cases] | rw [condK_bool] | rw [guardD_cases]); split <;> simp only [c60_l0, hE, Int.lt_irrefl, evX, Int.reduceEq, Int.reduceLT, Int.reduceLE, Nat.reduceMul, Nat.reduceMod, evW, evR, Nat.reduceAdd, Nat.reduceLT, Nat.reduceLeDiff, reduceIte, Nat.reduceEqDiff, reduceCtorEq, argEnv, eq_self, if_true, if_false, *])
      exact .exit (K := []) ⟨rfl, by rfl⟩) _ [] (by rfl) (by simp) z hz
  rcases L with ⟨ha, c, T, G, rfl, _, rfl, hT⟩ | ⟨i, r, hx, ha, _, c, T, G, rfl, _, rfl, hT⟩
  · simp only [hT, evX, Int.reduceEq, Int.reduceLT, Int.reduceLE, Nat.reduceMul, Nat.reduceMod, evW, fn_eq, evR, Nat.reduceAdd, Nat.reduceLT, Nat.reduceLeDiff, reduceIte, Nat.reduceEqDiff, reduceCtorEq, argEnv, eq_self, if_true, if_false]
    repeat' ((first | rw [guardK_cases] | rw [condK_bool] | rw [guardD_cases]); split <;> simp only [hT, evX, Int.reduceEq, Int.reduceLT, Int.reduceLE, Nat.reduceMul, Nat.reduceMod, evW, evR, Nat.reduceAdd, Nat.reduceLT, Nat.reduceLeDiff, reduceIte, Nat.reduceEqDiff, reduceCtorEq, argEnv, eq_self, if_true, if_false, *])
    all_goals (simp_all [isName, tell_pos]; try (intros; omega))
  · simp only [hT, evX, Int.reduceEq, Int.reduceLT, Int.reduceLE, Nat.reduceMul, Nat.reduceMod, evW, fn_eq, evR, Nat.reduceAdd, Nat.reduceLT, Nat.reduceLeDiff, reduceIte, Nat.reduceEqDiff, reduceCtorEq, argEnv, eq_self, if_true, if_false]
    repeat' ((first | rw [guardK_cases] | rw [condK_bool] | rw [guardD_cases]); split <;> simp only [hT, evX, Int.reduceEq, Int.reduceLT, Int.reduceLE, Nat.reduceMul, Nat.reduceMod, evW, evR, Nat.reduceAdd, Nat.reduceLT, Nat.reduceLeDiff, reduceIte, Nat.reduceEqDiff, reduceCtorEq, argEnv, eq_self, if_true, if_false, *])
    have : isName s = false := by
      unfold isName
      rw [tell_neg fun h => by rw [h i r hx] at ha; cases ha]; rfl
    rw [this]
end Go.Proofs.Ytcbmakanokmdjaa.Code
