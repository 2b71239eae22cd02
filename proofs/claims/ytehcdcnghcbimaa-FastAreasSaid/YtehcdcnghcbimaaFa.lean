/- fast: functions without loops, and the searches. -/
import Derived.Test.YtehcdcnghcbimaaCode
import Derived.Test.YtehcdcnghcbimaaEvU
set_option linter.unusedSimpArgs false
set_option linter.unusedVariables false
namespace Go.Proofs.Ytehcdcnghcbimaa.Code
open Go.Proofs.Ytehcdcnghcbimaa.Ev

structure Fld where
  key : ByteArray
  field : Int
  op : ByteArray
  n : Int
abbrev Row := ByteArray × List Int
abbrev Table := Int × List Row
def eInts (l : List Int) : AV := .lst (l.map fun n => [.int .i64 n])
def rRow (r : Row) : List AV := [.str r.1, eInts r.2]
def rFld (c : Fld) : List AV := [.str c.key, .int .i64 c.field, .str c.op, .int .i64 c.n]
def eUnit (l : List Fld) : AV := .lst (l.map rFld)
def eTab (t : Table) : AV := .agg [.int .i64 t.1, .lst (t.2.map rRow)]

def isKey (s : ByteArray) : Bool := decide ((1 : Int) ≤ s.size) && decide ((s.size : Int) ≤ 8)
theorem f47 (s : ByteArray) (H : Heap) : cal (evC cprog) false 47 [.str s] H = some (.bool (isKey s), H) := by
  rw [cal_of at47]
  simp only [c47, fn_eq, evR, Nat.reduceAdd, Nat.reduceLT, Nat.reduceLeDiff, reduceIte, Nat.reduceEqDiff, reduceCtorEq, argEnv, eq_self, if_true, if_false]
  repeat' (first | (rw [guardK_cases]; split <;> simp only [c47, evR, Nat.reduceAdd, Nat.reduceLT, Nat.reduceLeDiff, reduceIte, Nat.reduceEqDiff, reduceCtorEq, argEnv, eq_self, if_true, if_false, *]) | (rw [condK_bool]; split <;> simp only [c47, evR, Nat.reduceAdd, Nat.reduceLT, Nat.reduceLeDiff, reduceIte, Nat.reduceEqDiff, reduceCtorEq, argEnv, eq_self, if_true, if_false, *]))
  all_goals (simp_all [isKey]; try omega)
def isAmount (n : Int) : Bool := decide (-1000000000 ≤ n) && decide (n ≤ 1000000000)
theorem f50 (n : Int) (H : Heap) : cal (evC cprog) false 50 [.int .i64 n] H = some (.bool (isAmount n), H) := by
  rw [cal_of at50]
  simp only [c50, fn_eq, evR, Nat.reduceAdd, Nat.reduceLT, Nat.reduceLeDiff, reduceIte, Nat.reduceEqDiff, reduceCtorEq, argEnv, eq_self, if_true, if_false]
  repeat' (first | (rw [guardK_cases]; split <;> simp only [c50, evR, Nat.reduceAdd, Nat.reduceLT, Nat.reduceLeDiff, reduceIte, Nat.reduceEqDiff, reduceCtorEq, argEnv, eq_self, if_true, if_false, *]) | (rw [condK_bool]; split <;> simp only [c50, evR, Nat.reduceAdd, Nat.reduceLT, Nat.reduceLeDiff, reduceIte, Nat.reduceEqDiff, reduceCtorEq, argEnv, eq_self, if_true, if_false, *]))
  all_goals (simp_all [isAmount]; try omega)
theorem f51 (n : Int) (H : Heap) : cal (evC cprog) false 51 [.int .i64 n] H = some (.bool (isAmount n), H) := by
  rw [cal_of at51]
  simp only [c51, fn_eq, evR, Nat.reduceAdd, Nat.reduceLT, Nat.reduceLeDiff, reduceIte, Nat.reduceEqDiff, reduceCtorEq, argEnv, eq_self, if_true, if_false]
  repeat' (first | (rw [guardK_cases]; split <;> simp only [c51, evR, Nat.reduceAdd, Nat.reduceLT, Nat.reduceLeDiff, reduceIte, Nat.reduceEqDiff, reduceCtorEq, argEnv, eq_self, if_true, if_false, *]) | (rw [condK_bool]; split <;> simp only [c51, evR, Nat.reduceAdd, Nat.reduceLT, Nat.reduceLeDiff, reduceIte, Nat.reduceEqDiff, reduceCtorEq, argEnv, eq_self, if_true, if_false, *]))
  all_goals (simp_all [isAmount]; try omega)
theorem f49 (n : Int) (H : Heap) : cal (evC cprog) false 49 [.int .i64 n] H = some (.bool (!isAmount n), H) := by
  rw [cal_of at49]
  simp only [c49, fn_eq, f50, evR, Nat.reduceAdd, Nat.reduceLT, Nat.reduceLeDiff, reduceIte, Nat.reduceEqDiff, reduceCtorEq, argEnv, eq_self, if_true, if_false]
theorem lRow (r : Row) : Loads true 2 (rRow r) (.agg (rRow r)) := ⟨rfl, rfl⟩
theorem lFld (c : Fld) : Loads true 4 (rFld c) (.agg (rFld c)) := ⟨rfl, rfl⟩
theorem lInt (n : Int) : Loads false 1 [.int .i64 n] (.int .i64 n) := ⟨rfl, rfl, rfl⟩
theorem sInts (H : Heap) (l : List Int) : SlAt H 1 (eInts l) (l.map fun n => [.int .i64 n]) := .lst fun r hr => by
  obtain ⟨n, _, rfl⟩ := List.mem_map.1 hr; rfl
theorem sUnit (H : Heap) (l : List Fld) : SlAt H 4 (eUnit l) (l.map rFld) := .lst fun r hr => by
  obtain ⟨n, _, rfl⟩ := List.mem_map.1 hr; rfl
theorem f48 (l : List Int) (H : Heap) (a : AV) (ha : SlAt H 1 a (l.map fun n => [.int .i64 n])) (hl : l.length < 9223372036854775807) : cal (evC cprog) false 48 [a, .fn 49 []] H = some (.bool (l.any fun n => !isAmount n), H) :=
  containsFunc_ok (g := 71) at48 (indexFunc_ok (sz := 1) (ag := false) at71 _ _ lInt 49 [] _ H _ l ha hl fun n _ => f49 n H)
def ops : List ByteArray := [⟨#[86, 61]⟩, ⟨#[86, 60]⟩, ⟨#[86, 62]⟩, ⟨#[43]⟩, ⟨#[45]⟩, ⟨#[61]⟩]
def isOp (s : ByteArray) : Bool := ops.any fun x => decide (s = x)
def isCall (c : Fld) : Bool := isOp c.op && isAmount c.n
theorem f55 (s : ByteArray) (H : Heap) : cal (evC cprog) false 55 [.str s] H = some (.bool (isOp s), H) := by
  rw [cal_of at55]
  simp only [c55, fn_eq, evR, Nat.reduceAdd, Nat.reduceLT, Nat.reduceLeDiff, reduceIte, Nat.reduceEqDiff, reduceCtorEq, argEnv, eq_self, if_true, if_false]
  repeat' (first | (rw [guardK_cases]; split <;> simp only [c55, evR, Nat.reduceAdd, Nat.reduceLT, Nat.reduceLeDiff, reduceIte, Nat.reduceEqDiff, reduceCtorEq, argEnv, eq_self, if_true, if_false, *]) | (rw [condK_bool]; split <;> simp only [c55, evR, Nat.reduceAdd, Nat.reduceLT, Nat.reduceLeDiff, reduceIte, Nat.reduceEqDiff, reduceCtorEq, argEnv, eq_self, if_true, if_false, *]))
  all_goals simp_all [isOp, ops]
theorem f72 (s : ByteArray) (l : List ByteArray) (H : Heap) (a : AV) (ha : SlAt H 1 a (l.map fun x => [.str x])) (hl : l.length < 9223372036854775807) : cal (evC cprog) false 72 [a, .str s] H = some (.bool (l.any fun x => decide (s = x)), H) :=
  containsFunc_ok (g := 80) at72 (index_ok at80 s H a l ha hl)
def kOps : Blk := ⟨0, true, 9, 1, ops.map fun x => [.str x]⟩
theorem sOps (H : Heap) (B : Blk) : SlAt (H ++ [B, kOps]) 1 (.ref (H.length + 1) 0 1 0 6) (ops.map fun x => [.str x]) :=
  SlAt.ref (b := H.length + 1) (v := 0) (off := 0) (rows := ops.map fun x => [.str x]) (k := kOps) (by simp only [curBlk_eq, at_app]; rfl) fun i row hi => ⟨by
    obtain ⟨x, _, rfl⟩ := List.mem_map.1 (List.mem_of_getElem? hi); rfl, by rw [Nat.zero_add]; exact hi⟩
theorem f54 (c : Fld) (H : Heap) : cal (evC cprog) false 54 [.agg (rFld c)] H = some (.bool (isCall c), H) := by
  rw [cal_of at54]
  have h : ∀ B, _ := fun (B : Blk) => f72 c.op ops (H ++ [B, kOps]) (.ref (H.length + 1) 0 1 0 6) (sOps H B) (by decide)
  change ∀ B, cal (evC cprog) false 72 [.ref (H.length + 1) 0 1 0 6, .str c.op] (H ++ [B, kOps]) = some (.bool (isOp c.op), H ++ [B, kOps]) at h
  simp only [kOps, ops, List.map_cons, List.map_nil] at h
  simp only [c54, rFld, h, f50, fn_eq, evR, Nat.reduceAdd, Nat.reduceLT, Nat.reduceLeDiff, reduceIte, Nat.reduceEqDiff, reduceCtorEq, argEnv, eq_self, if_true, if_false]
  repeat' (first | (rw [guardK_cases]; split <;> simp only [c54, rFld, h, f50, evR, Nat.reduceAdd, Nat.reduceLT, Nat.reduceLeDiff, reduceIte, Nat.reduceEqDiff, reduceCtorEq, argEnv, eq_self, if_true, if_false, *]) | (rw [condK_bool]; split <;> simp only [c54, rFld, h, f50, evR, Nat.reduceAdd, Nat.reduceLT, Nat.reduceLeDiff, reduceIte, Nat.reduceEqDiff, reduceCtorEq, argEnv, eq_self, if_true, if_false, *]))
  all_goals simp_all [isCall]
theorem f53 (c : Fld) (H : Heap) : cal (evC cprog) false 53 [.agg (rFld c)] H = some (.bool (!isCall c), H) := by
  rw [cal_of at53]
  have h := f54 c
  simp only [rFld] at h
  simp only [c53, rFld, h, fn_eq, evR, Nat.reduceAdd, Nat.reduceLT, Nat.reduceLeDiff, reduceIte, Nat.reduceEqDiff, reduceCtorEq, argEnv, eq_self, if_true, if_false]
  repeat' (first | (rw [guardK_cases]; split <;> simp only [c53, rFld, h, evR, Nat.reduceAdd, Nat.reduceLT, Nat.reduceLeDiff, reduceIte, Nat.reduceEqDiff, reduceCtorEq, argEnv, eq_self, if_true, if_false, *]) | (rw [condK_bool]; split <;> simp only [c53, rFld, h, evR, Nat.reduceAdd, Nat.reduceLT, Nat.reduceLeDiff, reduceIte, Nat.reduceEqDiff, reduceCtorEq, argEnv, eq_self, if_true, if_false, *]))
theorem f52 (l : List Fld) (H : Heap) (a : AV) (ha : SlAt H 4 a (l.map rFld)) (hl : l.length < 9223372036854775807) : cal (evC cprog) false 52 [a, .fn 53 []] H = some (.bool (l.any fun c => !isCall c), H) :=
  containsFunc_ok (g := 69) at52 (indexFunc_ok (sz := 4) (ag := true) at69 _ _ lFld 53 [] _ H _ l ha hl fun n _ => f53 n H)
def isUnit (l : List Fld) : Bool := decide ((l.length : Int) ≤ 30) && l.all isCall
theorem f18 (l : List Fld) (hl : l.length < 9223372036854775807) (H : Heap) : cal (evC cprog) false 18 [eUnit l] H = some (.bool (isUnit l), H) := by
  rw [cal_of at18]
  have h := f52 l H (eUnit l) (sUnit H l) hl
  have h2 := (sUnit H l).len
  simp only [List.length_map] at h2
  simp only [c18, h, h2, fn_eq, evR, Nat.reduceAdd, Nat.reduceLT, Nat.reduceLeDiff, reduceIte, Nat.reduceEqDiff, reduceCtorEq, argEnv, eq_self, if_true, if_false]
  repeat' (first | (rw [guardK_cases]; split <;> simp only [c18, h, h2, evR, Nat.reduceAdd, Nat.reduceLT, Nat.reduceLeDiff, reduceIte, Nat.reduceEqDiff, reduceCtorEq, argEnv, eq_self, if_true, if_false, *]) | (rw [condK_bool]; split <;> simp only [c18, h, h2, evR, Nat.reduceAdd, Nat.reduceLT, Nat.reduceLeDiff, reduceIte, Nat.reduceEqDiff, reduceCtorEq, argEnv, eq_self, if_true, if_false, *]))
  all_goals (simp_all [isUnit, List.any_eq_not_all_not]; try omega)
theorem f19 (l : List Fld) (hl : l.length < 9223372036854775807) (H : Heap) : cal (evC cprog) false 19 [eUnit l] H = some (.bool (isUnit l), H) := by
  rw [cal_of at19]
  have h2 := (sUnit H l).len
  simp only [List.length_map] at h2
  simp only [c19, h2, fn_eq, evR, Nat.reduceAdd, Nat.reduceLT, Nat.reduceLeDiff, reduceIte, Nat.reduceEqDiff, reduceCtorEq, argEnv, eq_self, if_true, if_false]
  repeat' (first | (rw [guardK_cases]; split <;> simp only [c19, h2, evR, Nat.reduceAdd, Nat.reduceLT, Nat.reduceLeDiff, reduceIte, Nat.reduceEqDiff, reduceCtorEq, argEnv, eq_self, if_true, if_false, *]) | (rw [condK_bool]; split <;> simp only [c19, h2, evR, Nat.reduceAdd, Nat.reduceLT, Nat.reduceLeDiff, reduceIte, Nat.reduceEqDiff, reduceCtorEq, argEnv, eq_self, if_true, if_false, *]))
  generalize hz : itLim _ _ = z
  have L := all_rule l isCall [0, 3] (fun i => [(0, eUnit l), (3, .int .i64 (i : Int))]) H [] (evCode (evC cprog) itLim c19_l0) (fun c T => c = .exit 0 ∧ keepEnv T [0] = [(0, eUnit l)]) (fun c T => c = .ret ∧ get T 2 = some (.bool false))
    (fun i x hx E G hE => by
      have hlt : i < l.length := (List.getElem?_eq_some_iff.1 hx).1
      have hi : (i : Int) < (l.length : Int) := by omega
      obtain ⟨_, p, hp, hat⟩ := (sUnit (H ++ G) l).get i (rFld x) (by rw [List.getElem?_map, hx]; rfl)
      have h3 := (sUnit (H ++ G) l).len
      simp only [List.length_map] at h3
      simp only [c19_l0, hE, h3, hi, hp, hat.faddr, hat.fld, f55, f51, rFld, wrapS hlt hl, fn_eq, evR, Nat.reduceAdd, Nat.reduceLT, Nat.reduceLeDiff, reduceIte, Nat.reduceEqDiff, reduceCtorEq, argEnv, eq_self, if_true, if_false]
      repeat' (first | (rw [guardK_cases]; split <;> simp only [c19_l0, hE, h3, hi, hp, hat.faddr, hat.fld, f55, f51, rFld, wrapS hlt hl, evR, Nat.reduceAdd, Nat.reduceLT, Nat.reduceLeDiff, reduceIte, Nat.reduceEqDiff, reduceCtorEq, argEnv, eq_self, if_true, if_false, *]) | (rw [condK_bool]; split <;> simp only [c19_l0, hE, h3, hi, hp, hat.faddr, hat.fld, f55, f51, rFld, wrapS hlt hl, evR, Nat.reduceAdd, Nat.reduceLT, Nat.reduceLeDiff, reduceIte, Nat.reduceEqDiff, reduceCtorEq, argEnv, eq_self, if_true, if_false, *]))
      all_goals first | exact Sc.next (by first | (simp_all [isCall]; done) | (simp_all [isCall]; intros; omega)) (by rfl) | exact Sc.ret (by first | (simp_all [isCall]; done) | (simp_all [isCall]; intros; omega)) ⟨rfl, by first | rfl | exact ⟨rfl, rfl, rfl⟩⟩ | exact Sc.exit (by first | (simp_all [isCall]; done) | (simp_all [isCall]; intros; omega)) ⟨rfl, rfl⟩)
    (fun E G hE => by
      have h3 := (sUnit (H ++ G) l).len
      simp only [List.length_map] at h3
      simp only [c19_l0, hE, h3, Int.lt_irrefl, fn_eq, evR, Nat.reduceAdd, Nat.reduceLT, Nat.reduceLeDiff, reduceIte, Nat.reduceEqDiff, reduceCtorEq, argEnv, eq_self, if_true, if_false]
      repeat' (first | (rw [guardK_cases]; split <;> simp only [c19_l0, hE, h3, Int.lt_irrefl, evR, Nat.reduceAdd, Nat.reduceLT, Nat.reduceLeDiff, reduceIte, Nat.reduceEqDiff, reduceCtorEq, argEnv, eq_self, if_true, if_false, *]) | (rw [condK_bool]; split <;> simp only [c19_l0, hE, h3, Int.lt_irrefl, evR, Nat.reduceAdd, Nat.reduceLT, Nat.reduceLeDiff, reduceIte, Nat.reduceEqDiff, reduceCtorEq, argEnv, eq_self, if_true, if_false, *]))
      exact .exit (K := []) ⟨rfl, by simp only [evR, Nat.reduceAdd, Nat.reduceLT, Nat.reduceLeDiff, reduceIte, Nat.reduceEqDiff, reduceCtorEq, argEnv, eq_self, if_true, if_false]⟩) _ [] (by rfl) (by simp) z hz
  rcases L with ⟨ha, c, T, G, rfl, _, rfl, hT⟩ | ⟨ha, c, T, G, rfl, _, rfl, hT⟩
  · have h3 := (sUnit (H ++ G) l).len
    simp only [List.length_map] at h3
    simp only [hT, h3, fn_eq, evR, Nat.reduceAdd, Nat.reduceLT, Nat.reduceLeDiff, reduceIte, Nat.reduceEqDiff, reduceCtorEq, argEnv, eq_self, if_true, if_false]
    repeat' (first | (rw [guardK_cases]; split <;> simp only [hT, h3, evR, Nat.reduceAdd, Nat.reduceLT, Nat.reduceLeDiff, reduceIte, Nat.reduceEqDiff, reduceCtorEq, argEnv, eq_self, if_true, if_false, *]) | (rw [condK_bool]; split <;> simp only [hT, h3, evR, Nat.reduceAdd, Nat.reduceLT, Nat.reduceLeDiff, reduceIte, Nat.reduceEqDiff, reduceCtorEq, argEnv, eq_self, if_true, if_false, *]))
    simp_all [isUnit]
  · simp only [hT, fn_eq, evR, Nat.reduceAdd, Nat.reduceLT, Nat.reduceLeDiff, reduceIte, Nat.reduceEqDiff, reduceCtorEq, argEnv, eq_self, if_true, if_false]
    repeat' (first | (rw [guardK_cases]; split <;> simp only [hT, evR, Nat.reduceAdd, Nat.reduceLT, Nat.reduceLeDiff, reduceIte, Nat.reduceEqDiff, reduceCtorEq, argEnv, eq_self, if_true, if_false, *]) | (rw [condK_bool]; split <;> simp only [hT, evR, Nat.reduceAdd, Nat.reduceLT, Nat.reduceLeDiff, reduceIte, Nat.reduceEqDiff, reduceCtorEq, argEnv, eq_self, if_true, if_false, *]))
    simp_all [isUnit]
end Go.Proofs.Ytehcdcnghcbimaa.Code
