/- Texts of ours, joined into one file; each begins with its own remark. -/
import Derived.Test.YtehcdcnghcbimaaCode
import Derived.Test.YtehcdcnghcbimaaEvU
import Derived.Test.YtehcdcnghcbimaaEvV
import Derived.Test.YtehcdcnghcbimaaEvW
import Derived.Test.YtehcdcnghcbimaaEvR
import Derived.Test.YtehcdcnghcbimaaEvX
/- fast: functions without loops, and the searches. -/
set_option linter.unusedSimpArgs false
set_option linter.unusedVariables false
namespace Go.Proofs.Ytehcdcnghcbimaa.Code
open Go.Proofs.Ytehcdcnghcbimaa.Ev

structure Fld where
  key : ByteArray
  field : Int
  op : ByteArray
  n : Int
abbrev Row := ByteArray × List Int
abbrev Table := Int × List Row
def eInts (l : List Int) : AV := .lst (l.map fun n => [.int .i64 n])
def rRow (r : Row) : List AV := [.str r.1, eInts r.2]
def rFld (c : Fld) : List AV := [.str c.key, .int .i64 c.field, .str c.op, .int .i64 c.n]
def eUnit (l : List Fld) : AV := .lst (l.map rFld)
def eTab (t : Table) : AV := .agg [.int .i64 t.1, .lst (t.2.map rRow)]

def isKey (s : ByteArray) : Bool := decide ((1 : Int) ≤ s.size) && decide ((s.size : Int) ≤ 8)
theorem f47 (s : ByteArray) (H : Heap) : cal (evC cprog) false 47 [.str s] H = some (.bool (isKey s), H) := by
  rw [cal_of at47]
  simp only [c47, fn_eq, evR, Nat.reduceAdd, Nat.reduceLT, Nat.reduceLeDiff, reduceIte, Nat.reduceEqDiff, reduceCtorEq, argEnv, eq_self, if_true, if_false]
  repeat' (first | (rw [guardK_cases]; split <;> simp only [c47, evR, Nat.reduceAdd, Nat.reduceLT, Nat.reduceLeDiff, reduceIte, Nat.reduceEqDiff, reduceCtorEq, argEnv, eq_self, if_true, if_false, *]) | (rw [condK_bool]; split <;> simp only [c47, evR, Nat.reduceAdd, Nat.reduceLT, Nat.reduceLeDiff, reduceIte, Nat.reduceEqDiff, reduceCtorEq, argEnv, eq_self, if_true, if_false, *]))
  all_goals (simp_all [isKey]; try omega)
def isAmount (n : Int) : Bool := decide (-1000000000 ≤ n) && decide (n ≤ 1000000000)
theorem f50 (n : Int) (H : Heap) : cal (evC cprog) false 50 [.int .i64 n] H = some (.bool (isAmount n), H) := by
  rw [cal_of at50]
  simp only [c50, fn_eq, evR, Nat.reduceAdd, Nat.reduceLT, Nat.reduceLeDiff, reduceIte, Nat.reduceEqDiff, reduceCtorEq, argEnv, eq_self, if_true, if_false]
  repeat' (first | (rw [guardK_cases]; split <;> simp only [c50, evR, Nat.reduceAdd, Nat.reduceLT, Nat.reduceLeDiff, reduceIte, Nat.reduceEqDiff, reduceCtorEq, argEnv, eq_self, if_true, if_false, *]) | (rw [condK_bool]; split <;> simp only [c50, evR, Nat.reduceAdd, Nat.reduceLT, Nat.reduceLeDiff, reduceIte, Nat.reduceEqDiff, reduceCtorEq, argEnv, eq_self, if_true, if_false, *]))
  all_goals (simp_all [isAmount]; try omega)
theorem f51 (n : Int) (H : Heap) : cal (evC cprog) false 51 [.int .i64 n] H = some (.bool (isAmount n), H) := by
  rw [cal_of at51]
  simp only [c51, fn_eq, evR, Nat.reduceAdd, Nat.reduceLT, Nat.reduceLeDiff, reduceIte, Nat.reduceEqDiff, reduceCtorEq, argEnv, eq_self, if_true, if_false]
  repeat' (first | (rw [guardK_cases]; split <;> simp only [c51, evR, Nat.reduceAdd, Nat.reduceLT, Nat.reduceLeDiff, reduceIte, Nat.reduceEqDiff, reduceCtorEq, argEnv, eq_self, if_true, if_false, *]) | (rw [condK_bool]; split <;> simp only [c51, evR, Nat.reduceAdd, Nat.reduceLT, Nat.reduceLeDiff, reduceIte, Nat.reduceEqDiff, reduceCtorEq, argEnv, eq_self, if_true, if_false, *]))
  all_goals (simp_all [isAmount]; try omega)
theorem f49 (n : Int) (H : Heap) : cal (evC cprog) false 49 [.int .i64 n] H = some (.bool (!isAmount n), H) := by
  rw [cal_of at49]
  simp only [c49, fn_eq, f50, evR, Nat.reduceAdd, Nat.reduceLT, Nat.reduceLeDiff, reduceIte, Nat.reduceEqDiff, reduceCtorEq, argEnv, eq_self, if_true, if_false]
theorem lRow (r : Row) : Loads true 2 (rRow r) (.agg (rRow r)) := ⟨rfl, rfl⟩
theorem lFld (c : Fld) : Loads true 4 (rFld c) (.agg (rFld c)) := ⟨rfl, rfl⟩
theorem lInt (n : Int) : Loads false 1 [.int .i64 n] (.int .i64 n) := ⟨rfl, rfl, rfl⟩
theorem sInts (H : Heap) (l : List Int) : SlAt H 1 (eInts l) (l.map fun n => [.int .i64 n]) := .lst fun r hr => by
  obtain ⟨n, _, rfl⟩ := List.mem_map.1 hr; rfl
theorem sUnit (H : Heap) (l : List Fld) : SlAt H 4 (eUnit l) (l.map rFld) := .lst fun r hr => by
  obtain ⟨n, _, rfl⟩ := List.mem_map.1 hr; rfl
theorem f48 (l : List Int) (H : Heap) (a : AV) (ha : SlAt H 1 a (l.map fun n => [.int .i64 n])) (hl : l.length < 9223372036854775807) : cal (evC cprog) false 48 [a, .fn 49 []] H = some (.bool (l.any fun n => !isAmount n), H) :=
  containsFunc_ok (g := 71) at48 (indexFunc_ok (sz := 1) (ag := false) at71 _ _ lInt 49 [] _ H _ l ha hl fun n _ => f49 n H)
def ops : List ByteArray := [⟨#[86, 61]⟩, ⟨#[86, 60]⟩, ⟨#[86, 62]⟩, ⟨#[43]⟩, ⟨#[45]⟩, ⟨#[61]⟩]
def isOp (s : ByteArray) : Bool := ops.any fun x => decide (s = x)
def isCall (c : Fld) : Bool := isOp c.op && isAmount c.n
theorem f55 (s : ByteArray) (H : Heap) : cal (evC cprog) false 55 [.str s] H = some (.bool (isOp s), H) := by
  rw [cal_of at55]
  simp only [c55, fn_eq, evR, Nat.reduceAdd, Nat.reduceLT, Nat.reduceLeDiff, reduceIte, Nat.reduceEqDiff, reduceCtorEq, argEnv, eq_self, if_true, if_false]
  repeat' (first | (rw [guardK_cases]; split <;> simp only [c55, evR, Nat.reduceAdd, Nat.reduceLT, Nat.reduceLeDiff, reduceIte, Nat.reduceEqDiff, reduceCtorEq, argEnv, eq_self, if_true, if_false, *]) | (rw [condK_bool]; split <;> simp only [c55, evR, Nat.reduceAdd, Nat.reduceLT, Nat.reduceLeDiff, reduceIte, Nat.reduceEqDiff, reduceCtorEq, argEnv, eq_self, if_true, if_false, *]))
  all_goals simp_all [isOp, ops]
theorem f72 (s : ByteArray) (l : List ByteArray) (H : Heap) (a : AV) (ha : SlAt H 1 a (l.map fun x => [.str x])) (hl : l.length < 9223372036854775807) : cal (evC cprog) false 72 [a, .str s] H = some (.bool (l.any fun x => decide (s = x)), H) :=
  containsFunc_ok (g := 80) at72 (index_ok at80 s H a l ha hl)
def kOps : Blk := ⟨0, true, 9, 1, ops.map fun x => [.str x]⟩
theorem sOps (H : Heap) (B : Blk) : SlAt (H ++ [B, kOps]) 1 (.ref (H.length + 1) 0 1 0 6) (ops.map fun x => [.str x]) :=
  SlAt.ref (b := H.length + 1) (v := 0) (off := 0) (rows := ops.map fun x => [.str x]) (k := kOps) (by simp only [curBlk_eq, at_app]; rfl) fun i row hi => ⟨by
    obtain ⟨x, _, rfl⟩ := List.mem_map.1 (List.mem_of_getElem? hi); rfl, by rw [Nat.zero_add]; exact hi⟩
theorem f54 (c : Fld) (H : Heap) : cal (evC cprog) false 54 [.agg (rFld c)] H = some (.bool (isCall c), H) := by
  rw [cal_of at54]
  have h : ∀ B, _ := fun (B : Blk) => f72 c.op ops (H ++ [B, kOps]) (.ref (H.length + 1) 0 1 0 6) (sOps H B) (by decide)
  change ∀ B, cal (evC cprog) false 72 [.ref (H.length + 1) 0 1 0 6, .str c.op] (H ++ [B, kOps]) = some (.bool (isOp c.op), H ++ [B, kOps]) at h
  simp only [kOps, ops, List.map_cons, List.map_nil] at h
  simp only [c54, rFld, h, f50, fn_eq, evR, Nat.reduceAdd, Nat.reduceLT, Nat.reduceLeDiff, reduceIte, Nat.reduceEqDiff, reduceCtorEq, argEnv, eq_self, if_true, if_false]
  repeat' (first | (rw [guardK_cases]; split <;> simp only [c54, rFld, h, f50, evR, Nat.reduceAdd, Nat.reduceLT, Nat.reduceLeDiff, reduceIte, Nat.reduceEqDiff, reduceCtorEq, argEnv, eq_self, if_true, if_false, *]) | (rw [condK_bool]; split <;> simp only [c54, rFld, h, f50, evR, Nat.reduceAdd, Nat.reduceLT, Nat.reduceLeDiff, reduceIte, Nat.reduceEqDiff, reduceCtorEq, argEnv, eq_self, if_true, if_false, *]))
  all_goals simp_all [isCall]
theorem f53 (c : Fld) (H : Heap) : cal (evC cprog) false 53 [.agg (rFld c)] H = some (.bool (!isCall c), H) := by
  rw [cal_of at53]
  have h := f54 c
  simp only [rFld] at h
  simp only [c53, rFld, h, fn_eq, evR, Nat.reduceAdd, Nat.reduceLT, Nat.reduceLeDiff, reduceIte, Nat.reduceEqDiff, reduceCtorEq, argEnv, eq_self, if_true, if_false]
  repeat' (first | (rw [guardK_cases]; split <;> simp only [c53, rFld, h, evR, Nat.reduceAdd, Nat.reduceLT, Nat.reduceLeDiff, reduceIte, Nat.reduceEqDiff, reduceCtorEq, argEnv, eq_self, if_true, if_false, *]) | (rw [condK_bool]; split <;> simp only [c53, rFld, h, evR, Nat.reduceAdd, Nat.reduceLT, Nat.reduceLeDiff, reduceIte, Nat.reduceEqDiff, reduceCtorEq, argEnv, eq_self, if_true, if_false, *]))
theorem f52 (l : List Fld) (H : Heap) (a : AV) (ha : SlAt H 4 a (l.map rFld)) (hl : l.length < 9223372036854775807) : cal (evC cprog) false 52 [a, .fn 53 []] H = some (.bool (l.any fun c => !isCall c), H) :=
  containsFunc_ok (g := 69) at52 (indexFunc_ok (sz := 4) (ag := true) at69 _ _ lFld 53 [] _ H _ l ha hl fun n _ => f53 n H)
def isUnit (l : List Fld) : Bool := decide ((l.length : Int) ≤ 30) && l.all isCall
theorem f18 (l : List Fld) (hl : l.length < 9223372036854775807) (H : Heap) : cal (evC cprog) false 18 [eUnit l] H = some (.bool (isUnit l), H) := by
  rw [cal_of at18]
  have h := f52 l H (eUnit l) (sUnit H l) hl
  have h2 := (sUnit H l).len
  simp only [List.length_map] at h2
  simp only [c18, h, h2, fn_eq, evR, Nat.reduceAdd, Nat.reduceLT, Nat.reduceLeDiff, reduceIte, Nat.reduceEqDiff, reduceCtorEq, argEnv, eq_self, if_true, if_false]
  repeat' (first | (rw [guardK_cases]; split <;> simp only [c18, h, h2, evR, Nat.reduceAdd, Nat.reduceLT, Nat.reduceLeDiff, reduceIte, Nat.reduceEqDiff, reduceCtorEq, argEnv, eq_self, if_true, if_false, *]) | (rw [condK_bool]; split <;> simp only [c18, h, h2, evR, Nat.reduceAdd, Nat.reduceLT, Nat.reduceLeDiff, reduceIte, Nat.reduceEqDiff, reduceCtorEq, argEnv, eq_self, if_true, if_false, *]))
  all_goals (simp_all [isUnit, List.any_eq_not_all_not]; try omega)
theorem f19 (l : List Fld) (hl : l.length < 9223372036854775807) (H : Heap) : cal (evC cprog) false 19 [eUnit l] H = some (.bool (isUnit l), H) := by
  rw [cal_of at19]
  have h2 := (sUnit H l).len
  simp only [List.length_map] at h2
  simp only [c19, h2, fn_eq, evR, Nat.reduceAdd, Nat.reduceLT, Nat.reduceLeDiff, reduceIte, Nat.reduceEqDiff, reduceCtorEq, argEnv, eq_self, if_true, if_false]
  repeat' (first | (rw [guardK_cases]; split <;> simp only [c19, h2, evR, Nat.reduceAdd, Nat.reduceLT, Nat.reduceLeDiff, reduceIte, Nat.reduceEqDiff, reduceCtorEq, argEnv, eq_self, if_true, if_false, *]) | (rw [condK_bool]; split <;> simp only [c19, h2, evR, Nat.reduceAdd, Nat.reduceLT, Nat.reduceLeDiff, reduceIte, Nat.reduceEqDiff, reduceCtorEq, argEnv, eq_self, if_true, if_false, *]))
  generalize hz : itLim _ _ = z
  have L := all_rule l isCall [0, 3] (fun i => [(0, eUnit l), (3, .int .i64 (i : Int))]) H [] (evCode (evC cprog) itLim c19_l0) (fun c T => c = .exit 0 ∧ keepEnv T [0] = [(0, eUnit l)]) (fun c T => c = .ret ∧ get T 2 = some (.bool false))
    (fun i x hx E G hE => by
      have hlt : i < l.length := (List.getElem?_eq_some_iff.1 hx).1
      have hi : (i : Int) < (l.length : Int) := by omega
      obtain ⟨_, p, hp, hat⟩ := (sUnit (H ++ G) l).get i (rFld x) (by rw [List.getElem?_map, hx]; rfl)
      have h3 := (sUnit (H ++ G) l).len
      simp only [List.length_map] at h3
      simp only [c19_l0, hE, h3, hi, hp, hat.faddr, hat.fld, f55, f51, rFld, wrapS hlt hl, fn_eq, evR, Nat.reduceAdd, Nat.reduceLT, Nat.reduceLeDiff, reduceIte, Nat.reduceEqDiff, reduceCtorEq, argEnv, eq_self, if_true, if_false]
      repeat' (first | (rw [guardK_cases]; split <;> simp only [c19_l0, hE, h3, hi, hp, hat.faddr, hat.fld, f55, f51, rFld, wrapS hlt hl, evR, Nat.reduceAdd, Nat.reduceLT, Nat.reduceLeDiff, reduceIte, Nat.reduceEqDiff, reduceCtorEq, argEnv, eq_self, if_true, if_false, *]) | (rw [condK_bool]; split <;> simp only [c19_l0, hE, h3, hi, hp, hat.faddr, hat.fld, f55, f51, rFld, wrapS hlt hl, evR, Nat.reduceAdd, Nat.reduceLT, Nat.reduceLeDiff, reduceIte, Nat.reduceEqDiff, reduceCtorEq, argEnv, eq_self, if_true, if_false, *]))
      all_goals first | exact Sc.next (by first | (simp_all [isCall]; done) | (simp_all [isCall]; intros; omega)) (by rfl) | exact Sc.ret (by first | (simp_all [isCall]; done) | (simp_all [isCall]; intros; omega)) ⟨rfl, rfl⟩ | exact Sc.exit (by first | (simp_all [isCall]; done) | (simp_all [isCall]; intros; omega)) ⟨rfl, rfl⟩)
    (fun E G hE => by
      have h3 := (sUnit (H ++ G) l).len
      simp only [List.length_map] at h3
      simp only [c19_l0, hE, h3, Int.lt_irrefl, fn_eq, evR, Nat.reduceAdd, Nat.reduceLT, Nat.reduceLeDiff, reduceIte, Nat.reduceEqDiff, reduceCtorEq, argEnv, eq_self, if_true, if_false]
      repeat' (first | (rw [guardK_cases]; split <;> simp only [c19_l0, hE, h3, Int.lt_irrefl, evR, Nat.reduceAdd, Nat.reduceLT, Nat.reduceLeDiff, reduceIte, Nat.reduceEqDiff, reduceCtorEq, argEnv, eq_self, if_true, if_false, *]) | (rw [condK_bool]; split <;> simp only [c19_l0, hE, h3, Int.lt_irrefl, evR, Nat.reduceAdd, Nat.reduceLT, Nat.reduceLeDiff, reduceIte, Nat.reduceEqDiff, reduceCtorEq, argEnv, eq_self, if_true, if_false, *]))
      exact .exit (K := []) ⟨rfl, by simp only [evR, Nat.reduceAdd, Nat.reduceLT, Nat.reduceLeDiff, reduceIte, Nat.reduceEqDiff, reduceCtorEq, argEnv, eq_self, if_true, if_false]⟩) _ [] (by rfl) (by simp) z hz
  rcases L with ⟨ha, c, T, G, rfl, _, rfl, hT⟩ | ⟨ha, c, T, G, rfl, _, rfl, hT⟩
  · have h3 := (sUnit (H ++ G) l).len
    simp only [List.length_map] at h3
    simp only [hT, h3, fn_eq, evR, Nat.reduceAdd, Nat.reduceLT, Nat.reduceLeDiff, reduceIte, Nat.reduceEqDiff, reduceCtorEq, argEnv, eq_self, if_true, if_false]
    repeat' (first | (rw [guardK_cases]; split <;> simp only [hT, h3, evR, Nat.reduceAdd, Nat.reduceLT, Nat.reduceLeDiff, reduceIte, Nat.reduceEqDiff, reduceCtorEq, argEnv, eq_self, if_true, if_false, *]) | (rw [condK_bool]; split <;> simp only [hT, h3, evR, Nat.reduceAdd, Nat.reduceLT, Nat.reduceLeDiff, reduceIte, Nat.reduceEqDiff, reduceCtorEq, argEnv, eq_self, if_true, if_false, *]))
    simp_all [isUnit]
  · simp only [hT, fn_eq, evR, Nat.reduceAdd, Nat.reduceLT, Nat.reduceLeDiff, reduceIte, Nat.reduceEqDiff, reduceCtorEq, argEnv, eq_self, if_true, if_false]
    repeat' (first | (rw [guardK_cases]; split <;> simp only [hT, evR, Nat.reduceAdd, Nat.reduceLT, Nat.reduceLeDiff, reduceIte, Nat.reduceEqDiff, reduceCtorEq, argEnv, eq_self, if_true, if_false, *]) | (rw [condK_bool]; split <;> simp only [hT, evR, Nat.reduceAdd, Nat.reduceLT, Nat.reduceLeDiff, reduceIte, Nat.reduceEqDiff, reduceCtorEq, argEnv, eq_self, if_true, if_false, *]))
    simp_all [isUnit]
end Go.Proofs.Ytehcdcnghcbimaa.Code

/- fast: which tables are valid. -/
set_option linter.unusedSimpArgs false
set_option linter.unusedVariables false
namespace Go.Proofs.Ytehcdcnghcbimaa.Code
open Go.Proofs.Ytehcdcnghcbimaa.Ev

/-- rows that lie somewhere -/
structure RowsAt (H : Heap) (rv : AV) (rows : List Row) : Prop where
  rws : ∃ rws : List (List AV), SlAt H 2 rv rws ∧ rws.length = rows.length ∧ ∀ (i : Nat) (r : Row), rows[i]? = some r → ∃ v, rws[i]? = some [.str r.1, v] ∧ SlAt H 1 v (r.2.map fun n => [.int .i64 n])
theorem RowsAt.app {H : Heap} {rv : AV} {rows : List Row} (h : RowsAt H rv rows) (G : Heap) : RowsAt (H ++ G) rv rows := by
  obtain ⟨rws, h1, h2, h3⟩ := h.rws
  exact ⟨rws, h1.app G, h2, fun i r hr => let ⟨v, k1, k2⟩ := h3 i r hr; ⟨v, k1, k2.app G⟩⟩
theorem RowsAt.len {H : Heap} {rv : AV} {rows : List Row} (h : RowsAt H rv rows) : lenK false (some rv) = some (.int .i64 (rows.length : Int)) := by
  obtain ⟨rws, h1, h2, _⟩ := h.rws
  rw [h1.len, h2]
theorem RowsAt.get {H : Heap} {rv : AV} {rows : List Row} (h : RowsAt H rv rows) {i : Nat} {r : Row} (hr : rows[i]? = some r) :
    ∃ v p, SlAt H 1 v (r.2.map fun n => [.int .i64 n]) ∧ iaddrK 2 (some rv) (some (.int .i64 (i : Int))) = some p ∧ PtrAt H p [.str r.1, v] := by
  obtain ⟨rws, h1, h2, h3⟩ := h.rws
  obtain ⟨v, k1, k2⟩ := h3 i r hr
  obtain ⟨_, p, k3, k4⟩ := h1.get i _ k1
  exact ⟨v, p, k2, k3, k4⟩
theorem RowsAt.lst (H : Heap) (rows : List Row) : RowsAt H (.lst (rows.map rRow)) rows :=
  ⟨rows.map rRow, .lst fun r hr => (by obtain ⟨x, _, rfl⟩ := List.mem_map.1 hr; rfl), by simp, fun i r hr => ⟨eInts r.2, by rw [List.getElem?_map, hr]; rfl, sInts H r.2⟩⟩

def keyAt (rows : List Row) (i : Nat) : ByteArray := match rows[i]? with
  | some r => r.1
  | none => ByteArray.empty
/-- what is asked of a row -/
def rowOk (F : Int) (rows : List Row) (i : Nat) (r : Row) : Bool :=
  isKey r.1 && (decide (i = 0) || bLt (keyAt rows (i - 1)) r.1) && decide ((r.2.length : Int) = F) && r.2.all isAmount
noncomputable def rowsOk (F : Int) (rows : List Row) : Bool := tell (∀ (i : Nat) (r : Row), rows[i]? = some r → rowOk F rows i r = true)
noncomputable def valid (t : Table) : Bool := decide (1 ≤ t.1) && decide (t.1 ≤ 4) && decide ((t.2.length : Int) ≤ 20) && rowsOk t.1 t.2
def lim : Nat := 9223372036854775807

theorem loop17 (b : Nat) (Hh : Heap) (P1 i : AV) (s : ByteArray) (v : AV) (vs : List Int) (hv : SlAt Hh 1 v (vs.map fun n => [.int .i64 n])) (hl : vs.length < 9223372036854775807) (hb : Hh[b]? = some ⟨0, true, 76, 2, [[.str s, v]]⟩)
    (st : St) (hE : keepEnv st.1 [1, 3, 4, 5] = [(1, P1), (3, i), (4, .ptr b 0 2 0 0), (5, .int .i64 0)]) (hH : st.2 = Hh) (z : Option (CX × St)) (hz : itLim (evCode (evC cprog) itLim c17_l0) st = z) :
    (vs.all isAmount = true ∧ Lv Hh [] (fun c T => c = .exit 2 ∧ keepEnv T [1, 3] = [(1, P1), (3, i)]) z) ∨ (vs.all isAmount = false ∧ Lv Hh [] (fun c T => c = .ret ∧ get T 2 = some (.bool false)) z) := by
  have hb' : ∀ X, (Hh ++ X)[b]? = some ⟨0, true, 76, 2, [[.str s, v]]⟩ := fun X => by
    rw [List.getElem?_append_left (List.getElem?_eq_some_iff.1 hb).1]; exact hb
  have h4 := hv.len
  simp only [List.length_map] at h4
  exact all_rule vs isAmount [1, 3, 4, 5] (fun k => [(1, P1), (3, i), (4, .ptr b 0 2 0 0), (5, .int .i64 (k : Int))]) Hh [] (evCode (evC cprog) itLim c17_l0) _ _
    (fun k n hk E G hE => by
      have hlt : k < vs.length := (List.getElem?_eq_some_iff.1 hk).1
      have hi : (k : Int) < (vs.length : Int) := by omega
      obtain ⟨_, p, hp, hat⟩ := hv.get k [.int .i64 n] (by rw [List.getElem?_map, hk]; rfl)
      simp only [c17_l0, hE, hb', h4, hi, hp, hat.onex, f51, wrapS hlt hl, fn_eq, evR, Nat.reduceAdd, Nat.reduceLT, Nat.reduceLeDiff, reduceIte, Nat.reduceEqDiff, reduceCtorEq, argEnv, eq_self, if_true, if_false]
      repeat' (first | (rw [guardK_cases]; split <;> simp only [c17_l0, hE, hb', h4, hi, hp, hat.onex, f51, wrapS hlt hl, evR, Nat.reduceAdd, Nat.reduceLT, Nat.reduceLeDiff, reduceIte, Nat.reduceEqDiff, reduceCtorEq, argEnv, eq_self, if_true, if_false, *]) | (rw [condK_bool]; split <;> simp only [c17_l0, hE, hb', h4, hi, hp, hat.onex, f51, wrapS hlt hl, evR, Nat.reduceAdd, Nat.reduceLT, Nat.reduceLeDiff, reduceIte, Nat.reduceEqDiff, reduceCtorEq, argEnv, eq_self, if_true, if_false, *]))
      all_goals first | exact Sc.next (by first | (simp_all [isAmount]; done) | (simp_all [isAmount]; intros; omega)) (by rfl) | exact Sc.ret (by first | (simp_all [isAmount]; done) | (simp_all [isAmount]; intros; omega)) ⟨rfl, rfl⟩ | exact Sc.exit (by first | (simp_all [isAmount]; done) | (simp_all [isAmount]; intros; omega)) ⟨rfl, rfl⟩)
    (fun E G hE => by
      simp only [c17_l0, hE, hb', h4, Int.lt_irrefl, fn_eq, evR, Nat.reduceAdd, Nat.reduceLT, Nat.reduceLeDiff, reduceIte, Nat.reduceEqDiff, reduceCtorEq, argEnv, eq_self, if_true, if_false]
      repeat' (first | (rw [guardK_cases]; split <;> simp only [c17_l0, hE, hb', h4, Int.lt_irrefl, evR, Nat.reduceAdd, Nat.reduceLT, Nat.reduceLeDiff, reduceIte, Nat.reduceEqDiff, reduceCtorEq, argEnv, eq_self, if_true, if_false, *]) | (rw [condK_bool]; split <;> simp only [c17_l0, hE, hb', h4, Int.lt_irrefl, evR, Nat.reduceAdd, Nat.reduceLT, Nat.reduceLeDiff, reduceIte, Nat.reduceEqDiff, reduceCtorEq, argEnv, eq_self, if_true, if_false, *]))
      exact .exit (K := []) ⟨rfl, by rfl⟩) st [] hE (by simp [hH]) z hz
theorem f17 (F : Int) (rows : List Row) (hl : rows.length < 9223372036854775807) (hvl : ∀ r ∈ rows, r.2.length < 9223372036854775807) (rv : AV) (H : Heap) (hr : RowsAt H rv rows) :
    cal (evC cprog) false 17 [.agg [.int .i64 F, rv]] H = some (.bool (valid (F, rows)), H) := by
  rw [cal_of at17]
  have h3 := hr.len
  simp only [c17, fn_eq, evR, Nat.reduceAdd, Nat.reduceLT, Nat.reduceLeDiff, reduceIte, Nat.reduceEqDiff, reduceCtorEq, argEnv, eq_self, if_true, if_false]
  repeat' (first | (rw [guardK_cases]; split <;> simp only [c17, evR, Nat.reduceAdd, Nat.reduceLT, Nat.reduceLeDiff, reduceIte, Nat.reduceEqDiff, reduceCtorEq, argEnv, eq_self, if_true, if_false, *]) | (rw [condK_bool]; split <;> simp only [c17, evR, Nat.reduceAdd, Nat.reduceLT, Nat.reduceLeDiff, reduceIte, Nat.reduceEqDiff, reduceCtorEq, argEnv, eq_self, if_true, if_false, *]))
  generalize hz : itLim _ _ = z
  have L := scan_rule rows (rowOk F rows) [1, 3] (fun i => [(1, .ptr H.length 0 2 0 0), (3, .int .i64 (i : Int))]) H [⟨0, true, 24, 2, [[.int .i64 F, rv]]⟩] (evCode (evC cprog) itLim c17_l1) (fun c T => c = .exit 0 ∧ keepEnv T [1] = [(1, .ptr H.length 0 2 0 0)]) (fun _ _ c T => c = .ret ∧ get T 2 = some (.bool false))
    (fun i r hx E G hE => by
      have hlt : i < rows.length := (List.getElem?_eq_some_iff.1 hx).1
      have hi : (i : Int) < (rows.length : Int) := by omega
      obtain ⟨v, p, hv, hp, hat⟩ := hr.get hx
      have h4 := hv.len
      simp only [List.length_map] at h4
      have hin : ∀ z, itLim (evCode (evC cprog) itLim c17_l0) ([(5, .int .i64 0), (1, .ptr H.length 0 2 0 0), (3, .int .i64 (i : Int)), (4, .ptr (H.length + (G.length + 1)) 0 2 0 0)], H ++ (⟨0, true, 24, 2, [[.int .i64 F, rv]]⟩ :: (G ++ [⟨0, true, 76, 2, [[.str r.1, v]]⟩]))) = z → _ :=
        fun z hz => loop17 (H.length + (G.length + 1)) _ (.ptr H.length 0 2 0 0) (.int .i64 (i : Int)) r.1 v r.2 (hv.app _) (hvl r (List.mem_of_getElem? hx)) (by simp only [evR, Nat.reduceAdd, Nat.reduceLT, Nat.reduceLeDiff, reduceIte, Nat.reduceEqDiff, reduceCtorEq, argEnv, eq_self, if_true, if_false]) _ (by rfl) rfl z hz
      by_cases hi0 : 0 < i
      · obtain ⟨r', hr'⟩ : ∃ r', rows[i - 1]? = some r' := ⟨_, List.getElem?_eq_getElem (by omega)⟩
        obtain ⟨v', p', hv', hp', hat'⟩ := hr.get hr'
        have hi1 : (0 : Int) < (i : Int) := by omega
        have hk : keyAt rows (i - 1) = r'.1 := by simp [keyAt, hr']
        simp only [c17_l1, hE, h3, h4, hi, hi1, hp, hp', hat'.faddr, hat'.fldx, hat.aggx (n := 2) rfl, hat.faddr, hat.fldx, wrapS hlt hl, wrapP hlt hi0 hl, fn_eq, evR, Nat.reduceAdd, Nat.reduceLT, Nat.reduceLeDiff, reduceIte, Nat.reduceEqDiff, reduceCtorEq, argEnv, eq_self, if_true, if_false]
        repeat' (first | (rw [guardK_cases]; split <;> simp only [c17_l1, hE, h3, h4, hi, hi1, hp, hp', hat'.faddr, hat'.fldx, hat.aggx (n := 2) rfl, hat.faddr, hat.fldx, wrapS hlt hl, wrapP hlt hi0 hl, evR, Nat.reduceAdd, Nat.reduceLT, Nat.reduceLeDiff, reduceIte, Nat.reduceEqDiff, reduceCtorEq, argEnv, eq_self, if_true, if_false, *]) | (rw [condK_bool]; split <;> simp only [c17_l1, hE, h3, h4, hi, hi1, hp, hp', hat'.faddr, hat'.fldx, hat.aggx (n := 2) rfl, hat.faddr, hat.fldx, wrapS hlt hl, wrapP hlt hi0 hl, evR, Nat.reduceAdd, Nat.reduceLT, Nat.reduceLeDiff, reduceIte, Nat.reduceEqDiff, reduceCtorEq, argEnv, eq_self, if_true, if_false, *]))
        all_goals first | exact Sc.ret (by first | (simp_all [rowOk, isKey]; done) | (simp_all [rowOk, isKey]; intros; omega)) ⟨rfl, rfl⟩ | skip
        generalize hz : itLim _ _ = z
        rcases hin z hz with ⟨ha, c, T, G', rfl, _, rfl, hT⟩ | ⟨ha, c, T, G', rfl, _, rfl, hT⟩
        · simp only [hT, wrapS hlt hl, fn_eq, evR, Nat.reduceAdd, Nat.reduceLT, Nat.reduceLeDiff, reduceIte, Nat.reduceEqDiff, reduceCtorEq, argEnv, eq_self, if_true, if_false]
          repeat' (first | (rw [guardK_cases]; split <;> simp only [hT, wrapS hlt hl, evR, Nat.reduceAdd, Nat.reduceLT, Nat.reduceLeDiff, reduceIte, Nat.reduceEqDiff, reduceCtorEq, argEnv, eq_self, if_true, if_false, *]) | (rw [condK_bool]; split <;> simp only [hT, wrapS hlt hl, evR, Nat.reduceAdd, Nat.reduceLT, Nat.reduceLeDiff, reduceIte, Nat.reduceEqDiff, reduceCtorEq, argEnv, eq_self, if_true, if_false, *]))
          all_goals first | exact Sc.next (by first | (simp_all [rowOk, isKey]; done) | (simp_all [rowOk, isKey]; intros; omega)) (by rfl) | exact Sc.ret (by first | (simp_all [rowOk, isKey]; done) | (simp_all [rowOk, isKey]; intros; omega)) ⟨rfl, rfl⟩ | exact Sc.exit (by first | (simp_all [rowOk, isKey]; done) | (simp_all [rowOk, isKey]; intros; omega)) ⟨rfl, rfl⟩
        · simp only [hT, fn_eq, evR, Nat.reduceAdd, Nat.reduceLT, Nat.reduceLeDiff, reduceIte, Nat.reduceEqDiff, reduceCtorEq, argEnv, eq_self, if_true, if_false]
          repeat' (first | (rw [guardK_cases]; split <;> simp only [hT, evR, Nat.reduceAdd, Nat.reduceLT, Nat.reduceLeDiff, reduceIte, Nat.reduceEqDiff, reduceCtorEq, argEnv, eq_self, if_true, if_false, *]) | (rw [condK_bool]; split <;> simp only [hT, evR, Nat.reduceAdd, Nat.reduceLT, Nat.reduceLeDiff, reduceIte, Nat.reduceEqDiff, reduceCtorEq, argEnv, eq_self, if_true, if_false, *]))
          exact Sc.ret (by simp_all [rowOk, isKey]) ⟨rfl, hT⟩
      · have hi1 : ¬ (0 : Int) < (i : Int) := by omega
        simp only [c17_l1, hE, h3, h4, hi, hi1, hp, hat.aggx (n := 2) rfl, hat.faddr, hat.fldx, wrapS hlt hl, fn_eq, evR, Nat.reduceAdd, Nat.reduceLT, Nat.reduceLeDiff, reduceIte, Nat.reduceEqDiff, reduceCtorEq, argEnv, eq_self, if_true, if_false]
        repeat' (first | (rw [guardK_cases]; split <;> simp only [c17_l1, hE, h3, h4, hi, hi1, hp, hat.aggx (n := 2) rfl, hat.faddr, hat.fldx, wrapS hlt hl, evR, Nat.reduceAdd, Nat.reduceLT, Nat.reduceLeDiff, reduceIte, Nat.reduceEqDiff, reduceCtorEq, argEnv, eq_self, if_true, if_false, *]) | (rw [condK_bool]; split <;> simp only [c17_l1, hE, h3, h4, hi, hi1, hp, hat.aggx (n := 2) rfl, hat.faddr, hat.fldx, wrapS hlt hl, evR, Nat.reduceAdd, Nat.reduceLT, Nat.reduceLeDiff, reduceIte, Nat.reduceEqDiff, reduceCtorEq, argEnv, eq_self, if_true, if_false, *]))
        all_goals first | exact Sc.ret (by first | (simp_all [rowOk, isKey]; done) | (simp_all [rowOk, isKey]; intros; omega)) ⟨rfl, rfl⟩ | skip
        generalize hz : itLim _ _ = z
        rcases hin z hz with ⟨ha, c, T, G', rfl, _, rfl, hT⟩ | ⟨ha, c, T, G', rfl, _, rfl, hT⟩
        · simp only [hT, wrapS hlt hl, fn_eq, evR, Nat.reduceAdd, Nat.reduceLT, Nat.reduceLeDiff, reduceIte, Nat.reduceEqDiff, reduceCtorEq, argEnv, eq_self, if_true, if_false]
          repeat' (first | (rw [guardK_cases]; split <;> simp only [hT, wrapS hlt hl, evR, Nat.reduceAdd, Nat.reduceLT, Nat.reduceLeDiff, reduceIte, Nat.reduceEqDiff, reduceCtorEq, argEnv, eq_self, if_true, if_false, *]) | (rw [condK_bool]; split <;> simp only [hT, wrapS hlt hl, evR, Nat.reduceAdd, Nat.reduceLT, Nat.reduceLeDiff, reduceIte, Nat.reduceEqDiff, reduceCtorEq, argEnv, eq_self, if_true, if_false, *]))
          all_goals first | exact Sc.next (by first | (simp_all [rowOk, isKey]; done) | (simp_all [rowOk, isKey]; intros; omega)) (by rfl) | exact Sc.ret (by first | (simp_all [rowOk, isKey]; done) | (simp_all [rowOk, isKey]; intros; omega)) ⟨rfl, rfl⟩ | exact Sc.exit (by first | (simp_all [rowOk, isKey]; done) | (simp_all [rowOk, isKey]; intros; omega)) ⟨rfl, rfl⟩
        · simp only [hT, fn_eq, evR, Nat.reduceAdd, Nat.reduceLT, Nat.reduceLeDiff, reduceIte, Nat.reduceEqDiff, reduceCtorEq, argEnv, eq_self, if_true, if_false]
          repeat' (first | (rw [guardK_cases]; split <;> simp only [hT, evR, Nat.reduceAdd, Nat.reduceLT, Nat.reduceLeDiff, reduceIte, Nat.reduceEqDiff, reduceCtorEq, argEnv, eq_self, if_true, if_false, *]) | (rw [condK_bool]; split <;> simp only [hT, evR, Nat.reduceAdd, Nat.reduceLT, Nat.reduceLeDiff, reduceIte, Nat.reduceEqDiff, reduceCtorEq, argEnv, eq_self, if_true, if_false, *]))
          exact Sc.ret (by simp_all [rowOk, isKey]) ⟨rfl, hT⟩)
    (fun E G hE => by
      simp only [c17_l1, hE, h3, Int.lt_irrefl, fn_eq, evR, Nat.reduceAdd, Nat.reduceLT, Nat.reduceLeDiff, reduceIte, Nat.reduceEqDiff, reduceCtorEq, argEnv, eq_self, if_true, if_false]
      repeat' (first | (rw [guardK_cases]; split <;> simp only [c17_l1, hE, h3, Int.lt_irrefl, evR, Nat.reduceAdd, Nat.reduceLT, Nat.reduceLeDiff, reduceIte, Nat.reduceEqDiff, reduceCtorEq, argEnv, eq_self, if_true, if_false, *]) | (rw [condK_bool]; split <;> simp only [c17_l1, hE, h3, Int.lt_irrefl, evR, Nat.reduceAdd, Nat.reduceLT, Nat.reduceLeDiff, reduceIte, Nat.reduceEqDiff, reduceCtorEq, argEnv, eq_self, if_true, if_false, *]))
      exact .exit (K := [_]) ⟨rfl, by rfl⟩) _ [] (by rfl) (by simp) z hz
  rcases L with ⟨ha, c, T, G, rfl, _, rfl, hT⟩ | ⟨i, r, hx, ha, _, c, T, G, rfl, _, rfl, hT⟩
  · have hrows : rowsOk F rows = true := tell_pos ha
    simp only [hT, h3, fn_eq, evR, Nat.reduceAdd, Nat.reduceLT, Nat.reduceLeDiff, reduceIte, Nat.reduceEqDiff, reduceCtorEq, argEnv, eq_self, if_true, if_false]
    repeat' (first | (rw [guardK_cases]; split <;> simp only [hT, h3, evR, Nat.reduceAdd, Nat.reduceLT, Nat.reduceLeDiff, reduceIte, Nat.reduceEqDiff, reduceCtorEq, argEnv, eq_self, if_true, if_false, *]) | (rw [condK_bool]; split <;> simp only [hT, h3, evR, Nat.reduceAdd, Nat.reduceLT, Nat.reduceLeDiff, reduceIte, Nat.reduceEqDiff, reduceCtorEq, argEnv, eq_self, if_true, if_false, *]))
    all_goals (simp_all [valid]; try omega)
  · have hrows : rowsOk F rows = false := tell_neg fun h => by rw [h i r hx] at ha; cases ha
    simp only [hT, fn_eq, evR, Nat.reduceAdd, Nat.reduceLT, Nat.reduceLeDiff, reduceIte, Nat.reduceEqDiff, reduceCtorEq, argEnv, eq_self, if_true, if_false]
    repeat' (first | (rw [guardK_cases]; split <;> simp only [hT, evR, Nat.reduceAdd, Nat.reduceLT, Nat.reduceLeDiff, reduceIte, Nat.reduceEqDiff, reduceCtorEq, argEnv, eq_self, if_true, if_false, *]) | (rw [condK_bool]; split <;> simp only [hT, evR, Nat.reduceAdd, Nat.reduceLT, Nat.reduceLeDiff, reduceIte, Nat.reduceEqDiff, reduceCtorEq, argEnv, eq_self, if_true, if_false, *]))
    simp_all [valid]
end Go.Proofs.Ytehcdcnghcbimaa.Code

/- fast: which tables are valid, as the program tells it; what is asked of both. -/
set_option linter.unusedSimpArgs false
set_option linter.unusedVariables false
namespace Go.Proofs.Ytehcdcnghcbimaa.Code
open Go.Proofs.Ytehcdcnghcbimaa.Ev

theorem f16 (F : Int) (rows : List Row) (hl : rows.length < 9223372036854775807) (hvl : ∀ r ∈ rows, r.2.length < 9223372036854775807) (rv : AV) (H : Heap) (hr : RowsAt H rv rows) :
    cal (evC cprog) false 16 [.agg [.int .i64 F, rv]] H = some (.bool (valid (F, rows)), H) := by
  rw [cal_of at16]
  have h3 := hr.len
  simp only [c16, h3, fn_eq, evR, Nat.reduceAdd, Nat.reduceLT, Nat.reduceLeDiff, reduceIte, Nat.reduceEqDiff, reduceCtorEq, argEnv, eq_self, if_true, if_false]
  repeat' (first | (rw [guardK_cases]; split <;> simp only [c16, h3, evR, Nat.reduceAdd, Nat.reduceLT, Nat.reduceLeDiff, reduceIte, Nat.reduceEqDiff, reduceCtorEq, argEnv, eq_self, if_true, if_false, *]) | (rw [condK_bool]; split <;> simp only [c16, h3, evR, Nat.reduceAdd, Nat.reduceLT, Nat.reduceLeDiff, reduceIte, Nat.reduceEqDiff, reduceCtorEq, argEnv, eq_self, if_true, if_false, *]))
  all_goals first | (simp only [Option.some.injEq, Prod.mk.injEq, and_true, AV.bool.injEq]; simp_all [valid]; intros; omega) | skip
  generalize hz : itLim _ _ = z
  have L := scan_rule rows (rowOk F rows) [1, 20, 21, 22] (fun i => [(1, .ptr H.length 0 2 0 0), (20, rv), (21, .int .i64 (rows.length : Int)), (22, .int .i64 (i : Int))]) H [⟨0, true, 24, 2, [[.int .i64 F, rv]]⟩] (evCode (evC cprog) itLim c16_l0) (fun c T => c = .exit 0) (fun _ _ c T => c = .ret ∧ get T 2 = some (.bool false))
    (fun i r hx E G hE => by
      have hlt : i < rows.length := (List.getElem?_eq_some_iff.1 hx).1
      have hi : (i : Int) < (rows.length : Int) := by omega
      obtain ⟨v, p, hv, hp, hat⟩ := hr.get hx
      have h4 := hv.len
      simp only [List.length_map] at h4
      have h48 := fun G' => f48 r.2 (H ++ G') v (hv.app G') (hvl r (List.mem_of_getElem? hx))
      by_cases hi0 : 0 < i
      · obtain ⟨r', hr'⟩ : ∃ r', rows[i - 1]? = some r' := ⟨_, List.getElem?_eq_getElem (by omega)⟩
        obtain ⟨v', p', hv', hp', hat'⟩ := hr.get hr'
        have hi1 : (0 : Int) < (i : Int) := by omega
        have hk : keyAt rows (i - 1) = r'.1 := by simp [keyAt, hr']
        simp only [c16_l0, hE, h3, h4, h48, f47, bLt_tri, hi, hi1, hp, hp', hat'.faddr, hat'.fldx, hat.aggx (n := 2) rfl, hat.faddr, hat.fldx, wrapS hlt hl, wrapP hlt hi0 hl, fn_eq, evR, Nat.reduceAdd, Nat.reduceLT, Nat.reduceLeDiff, reduceIte, Nat.reduceEqDiff, reduceCtorEq, argEnv, eq_self, if_true, if_false]
        repeat' (first | (rw [guardK_cases]; split <;> simp only [c16_l0, hE, h3, h4, h48, f47, bLt_tri, hi, hi1, hp, hp', hat'.faddr, hat'.fldx, hat.aggx (n := 2) rfl, hat.faddr, hat.fldx, wrapS hlt hl, wrapP hlt hi0 hl, evR, Nat.reduceAdd, Nat.reduceLT, Nat.reduceLeDiff, reduceIte, Nat.reduceEqDiff, reduceCtorEq, argEnv, eq_self, if_true, if_false, *]) | (rw [condK_bool]; split <;> simp only [c16_l0, hE, h3, h4, h48, f47, bLt_tri, hi, hi1, hp, hp', hat'.faddr, hat'.fldx, hat.aggx (n := 2) rfl, hat.faddr, hat.fldx, wrapS hlt hl, wrapP hlt hi0 hl, evR, Nat.reduceAdd, Nat.reduceLT, Nat.reduceLeDiff, reduceIte, Nat.reduceEqDiff, reduceCtorEq, argEnv, eq_self, if_true, if_false, *]))
        all_goals first | exact Sc.next (by first | (simp_all [rowOk, isKey]; done) | (simp_all [rowOk, isKey]; intros; omega)) (by rfl) | exact Sc.ret (by first | (simp_all [rowOk, isKey]; done) | (simp_all [rowOk, isKey]; intros; omega)) ⟨rfl, rfl⟩ | exact Sc.exit (by first | (simp_all [rowOk, isKey]; done) | (simp_all [rowOk, isKey]; intros; omega)) ⟨rfl, rfl⟩
      · have hi1 : ¬ (0 : Int) < (i : Int) := by omega
        simp only [c16_l0, hE, h3, h4, h48, f47, hi, hi1, hp, hat.aggx (n := 2) rfl, hat.faddr, hat.fldx, wrapS hlt hl, fn_eq, evR, Nat.reduceAdd, Nat.reduceLT, Nat.reduceLeDiff, reduceIte, Nat.reduceEqDiff, reduceCtorEq, argEnv, eq_self, if_true, if_false]
        repeat' (first | (rw [guardK_cases]; split <;> simp only [c16_l0, hE, h3, h4, h48, f47, hi, hi1, hp, hat.aggx (n := 2) rfl, hat.faddr, hat.fldx, wrapS hlt hl, evR, Nat.reduceAdd, Nat.reduceLT, Nat.reduceLeDiff, reduceIte, Nat.reduceEqDiff, reduceCtorEq, argEnv, eq_self, if_true, if_false, *]) | (rw [condK_bool]; split <;> simp only [c16_l0, hE, h3, h4, h48, f47, hi, hi1, hp, hat.aggx (n := 2) rfl, hat.faddr, hat.fldx, wrapS hlt hl, evR, Nat.reduceAdd, Nat.reduceLT, Nat.reduceLeDiff, reduceIte, Nat.reduceEqDiff, reduceCtorEq, argEnv, eq_self, if_true, if_false, *]))
        all_goals first | exact Sc.next (by first | (simp_all [rowOk, isKey]; done) | (simp_all [rowOk, isKey]; intros; omega)) (by rfl) | exact Sc.ret (by first | (simp_all [rowOk, isKey]; done) | (simp_all [rowOk, isKey]; intros; omega)) ⟨rfl, rfl⟩ | exact Sc.exit (by first | (simp_all [rowOk, isKey]; done) | (simp_all [rowOk, isKey]; intros; omega)) ⟨rfl, rfl⟩)
    (fun E G hE => by
      simp only [c16_l0, hE, h3, Int.lt_irrefl, fn_eq, evR, Nat.reduceAdd, Nat.reduceLT, Nat.reduceLeDiff, reduceIte, Nat.reduceEqDiff, reduceCtorEq, argEnv, eq_self, if_true, if_false]
      repeat' (first | (rw [guardK_cases]; split <;> simp only [c16_l0, hE, h3, Int.lt_irrefl, evR, Nat.reduceAdd, Nat.reduceLT, Nat.reduceLeDiff, reduceIte, Nat.reduceEqDiff, reduceCtorEq, argEnv, eq_self, if_true, if_false, *]) | (rw [condK_bool]; split <;> simp only [c16_l0, hE, h3, Int.lt_irrefl, evR, Nat.reduceAdd, Nat.reduceLT, Nat.reduceLeDiff, reduceIte, Nat.reduceEqDiff, reduceCtorEq, argEnv, eq_self, if_true, if_false, *]))
      exact .exit (K := [_]) rfl) _ [] (by rfl) (by simp) z hz
  rcases L with ⟨ha, c, T, G, rfl, _, rfl⟩ | ⟨i, r, hx, ha, _, c, T, G, rfl, _, rfl, hT⟩
  · have hrows : rowsOk F rows = true := tell_pos ha
    simp only [h3, fn_eq, evR, Nat.reduceAdd, Nat.reduceLT, Nat.reduceLeDiff, reduceIte, Nat.reduceEqDiff, reduceCtorEq, argEnv, eq_self, if_true, if_false]
    repeat' (first | (rw [guardK_cases]; split <;> simp only [h3, evR, Nat.reduceAdd, Nat.reduceLT, Nat.reduceLeDiff, reduceIte, Nat.reduceEqDiff, reduceCtorEq, argEnv, eq_self, if_true, if_false, *]) | (rw [condK_bool]; split <;> simp only [h3, evR, Nat.reduceAdd, Nat.reduceLT, Nat.reduceLeDiff, reduceIte, Nat.reduceEqDiff, reduceCtorEq, argEnv, eq_self, if_true, if_false, *]))
    all_goals (simp_all [valid]; try omega)
  · have hrows : rowsOk F rows = false := tell_neg fun h => by rw [h i r hx] at ha; cases ha
    simp only [hT, fn_eq, evR, Nat.reduceAdd, Nat.reduceLT, Nat.reduceLeDiff, reduceIte, Nat.reduceEqDiff, reduceCtorEq, argEnv, eq_self, if_true, if_false]
    repeat' (first | (rw [guardK_cases]; split <;> simp only [hT, evR, Nat.reduceAdd, Nat.reduceLT, Nat.reduceLeDiff, reduceIte, Nat.reduceEqDiff, reduceCtorEq, argEnv, eq_self, if_true, if_false, *]) | (rw [condK_bool]; split <;> simp only [hT, evR, Nat.reduceAdd, Nat.reduceLT, Nat.reduceLeDiff, reduceIte, Nat.reduceEqDiff, reduceCtorEq, argEnv, eq_self, if_true, if_false, *]))
    simp_all [valid]
theorem f68 (l : List Fld) (hl : l.length < 9223372036854775807) (H : Heap) : cal (evC cprog) false 68 [eUnit l] H = some (.bool (!isUnit l), H) := by
  rw [cal_of at68]
  have h := f18 l hl
  simp only [c68, h, fn_eq, evR, Nat.reduceAdd, Nat.reduceLT, Nat.reduceLeDiff, reduceIte, Nat.reduceEqDiff, reduceCtorEq, argEnv, eq_self, if_true, if_false]
  repeat' (first | (rw [guardK_cases]; split <;> simp only [c68, h, evR, Nat.reduceAdd, Nat.reduceLT, Nat.reduceLeDiff, reduceIte, Nat.reduceEqDiff, reduceCtorEq, argEnv, eq_self, if_true, if_false, *]) | (rw [condK_bool]; split <;> simp only [c68, h, evR, Nat.reduceAdd, Nat.reduceLT, Nat.reduceLeDiff, reduceIte, Nat.reduceEqDiff, reduceCtorEq, argEnv, eq_self, if_true, if_false, *]))
theorem lUnit (l : List Fld) : Loads false 1 [eUnit l] (eUnit l) := ⟨rfl, rfl, rfl⟩
theorem f67 (us : List (List Fld)) (H : Heap) (a : AV) (ha : SlAt H 1 a (us.map fun l => [eUnit l])) (hl : us.length < 9223372036854775807) (hu : ∀ l ∈ us, l.length < 9223372036854775807) :
    cal (evC cprog) false 67 [a, .fn 68 []] H = some (.bool (us.any fun l => !isUnit l), H) :=
  containsFunc_ok (g := 79) at67 (indexFunc_ok (sz := 1) (ag := false) at79 _ _ lUnit 68 [] _ H _ us ha hl fun l h => f68 l (hu l h) H)
/-- the error of a table and units -/
noncomputable def asked (t : Table) (us : List (List Fld)) : Int := if valid t = false then 210 else if us.all isUnit = false then 211 else 0
theorem f43 (F : Int) (rows : List Row) (hl : rows.length < 9223372036854775807) (hvl : ∀ r ∈ rows, r.2.length < 9223372036854775807) (rv : AV) (H : Heap) (hr : RowsAt H rv rows)
    (us : List (List Fld)) (a : AV) (ha : SlAt H 1 a (us.map fun l => [eUnit l])) (hul : us.length < 9223372036854775807) (hu : ∀ l ∈ us, l.length < 9223372036854775807) :
    cal (evC cprog) false 43 [.agg [.int .i64 F, rv], a] H = some (.int .i64 (asked (F, rows) us), H) := by
  rw [cal_of at43]
  have h16 := fun X => f16 F rows hl hvl rv (H ++ X) (hr.app X)
  have h67 := fun X => f67 us (H ++ X) a (ha.app X) hul hu
  have e : (us.any fun l => !isUnit l) = !us.all isUnit := by rw [List.any_eq_not_all_not]; simp
  rw [e] at h67
  simp only [c43, h16, h67, fn_eq, evR, Nat.reduceAdd, Nat.reduceLT, Nat.reduceLeDiff, reduceIte, Nat.reduceEqDiff, reduceCtorEq, argEnv, eq_self, if_true, if_false]
  repeat' (first | (rw [guardK_cases]; split <;> simp only [c43, h16, h67, evR, Nat.reduceAdd, Nat.reduceLT, Nat.reduceLeDiff, reduceIte, Nat.reduceEqDiff, reduceCtorEq, argEnv, eq_self, if_true, if_false, *]) | (rw [condK_bool]; split <;> simp only [c43, h16, h67, evR, Nat.reduceAdd, Nat.reduceLT, Nat.reduceLeDiff, reduceIte, Nat.reduceEqDiff, reduceCtorEq, argEnv, eq_self, if_true, if_false, *]))
  all_goals (simp_all [asked])
theorem f45 (F : Int) (rows : List Row) (hl : rows.length < 9223372036854775807) (hvl : ∀ r ∈ rows, r.2.length < 9223372036854775807) (rv : AV) (H : Heap) (hr : RowsAt H rv rows)
    (l : List Fld) (hu : l.length < 9223372036854775807) :
    cal (evC cprog) false 45 [.agg [.int .i64 F, rv], eUnit l] H = some (.int .i64 (asked (F, rows) [l]), H) := by
  rw [cal_of at45]
  have h17 := fun X => f17 F rows hl hvl rv (H ++ X) (hr.app X)
  have h19 := f19 l hu
  simp only [c45, h17, h19, fn_eq, evR, Nat.reduceAdd, Nat.reduceLT, Nat.reduceLeDiff, reduceIte, Nat.reduceEqDiff, reduceCtorEq, argEnv, eq_self, if_true, if_false]
  repeat' (first | (rw [guardK_cases]; split <;> simp only [c45, h17, h19, evR, Nat.reduceAdd, Nat.reduceLT, Nat.reduceLeDiff, reduceIte, Nat.reduceEqDiff, reduceCtorEq, argEnv, eq_self, if_true, if_false, *]) | (rw [condK_bool]; split <;> simp only [c45, h17, h19, evR, Nat.reduceAdd, Nat.reduceLT, Nat.reduceLeDiff, reduceIte, Nat.reduceEqDiff, reduceCtorEq, argEnv, eq_self, if_true, if_false, *]))
  all_goals (simp_all [asked])
end Go.Proofs.Ytehcdcnghcbimaa.Code

/- fast: small tables, the same tables. -/
set_option linter.unusedSimpArgs false
set_option linter.unusedVariables false
namespace Go.Proofs.Ytehcdcnghcbimaa.Code
open Go.Proofs.Ytehcdcnghcbimaa.Ev

def small (rows : List Row) : Bool := rows.all (fun r => decide ((r.2.length : Int) ≤ 10)) && decide ((rows.length : Int) ≤ 30)
theorem f10 (F : Int) (rows : List Row) (hl : rows.length < 9223372036854775807) (rv : AV) (H : Heap) (hr : RowsAt H rv rows) :
    cal (evC cprog) false 10 [.agg [.int .i64 F, rv]] H = some (.bool (small rows), H) := by
  rw [cal_of at10]
  have h3 := hr.len
  simp only [c10, fn_eq, evR, Nat.reduceAdd, Nat.reduceLT, Nat.reduceLeDiff, reduceIte, Nat.reduceEqDiff, reduceCtorEq, argEnv, eq_self, if_true, if_false]
  repeat' (first | (rw [guardK_cases]; split <;> simp only [c10, evR, Nat.reduceAdd, Nat.reduceLT, Nat.reduceLeDiff, reduceIte, Nat.reduceEqDiff, reduceCtorEq, argEnv, eq_self, if_true, if_false, *]) | (rw [condK_bool]; split <;> simp only [c10, evR, Nat.reduceAdd, Nat.reduceLT, Nat.reduceLeDiff, reduceIte, Nat.reduceEqDiff, reduceCtorEq, argEnv, eq_self, if_true, if_false, *]))
  generalize hz : itLim _ _ = z
  have L := all_rule rows (fun r => decide ((r.2.length : Int) ≤ 10)) [1, 3] (fun i => [(1, .ptr H.length 0 2 0 0), (3, .int .i64 (i : Int))]) H [⟨0, true, 24, 2, [[.int .i64 F, rv]]⟩] (evCode (evC cprog) itLim c10_l0) (fun c T => c = .exit 0 ∧ keepEnv T [1] = [(1, .ptr H.length 0 2 0 0)]) (fun c T => c = .ret ∧ get T 2 = some (.bool false))
    (fun i r hx E G hE => by
      have hlt : i < rows.length := (List.getElem?_eq_some_iff.1 hx).1
      have hi : (i : Int) < (rows.length : Int) := by omega
      obtain ⟨v, p, hv, hp, hat⟩ := hr.get hx
      have h4 := hv.len
      simp only [List.length_map] at h4
      simp only [c10_l0, hE, h3, h4, hi, hp, hat.faddr, hat.fldx, wrapS hlt hl, fn_eq, evR, Nat.reduceAdd, Nat.reduceLT, Nat.reduceLeDiff, reduceIte, Nat.reduceEqDiff, reduceCtorEq, argEnv, eq_self, if_true, if_false]
      repeat' (first | (rw [guardK_cases]; split <;> simp only [c10_l0, hE, h3, h4, hi, hp, hat.faddr, hat.fldx, wrapS hlt hl, evR, Nat.reduceAdd, Nat.reduceLT, Nat.reduceLeDiff, reduceIte, Nat.reduceEqDiff, reduceCtorEq, argEnv, eq_self, if_true, if_false, *]) | (rw [condK_bool]; split <;> simp only [c10_l0, hE, h3, h4, hi, hp, hat.faddr, hat.fldx, wrapS hlt hl, evR, Nat.reduceAdd, Nat.reduceLT, Nat.reduceLeDiff, reduceIte, Nat.reduceEqDiff, reduceCtorEq, argEnv, eq_self, if_true, if_false, *]))
      all_goals first | exact Sc.next (by simp_all) (by rfl) | exact Sc.ret (by simp_all) ⟨rfl, rfl⟩)
    (fun E G hE => by
      simp only [c10_l0, hE, h3, Int.lt_irrefl, fn_eq, evR, Nat.reduceAdd, Nat.reduceLT, Nat.reduceLeDiff, reduceIte, Nat.reduceEqDiff, reduceCtorEq, argEnv, eq_self, if_true, if_false]
      repeat' (first | (rw [guardK_cases]; split <;> simp only [c10_l0, hE, h3, Int.lt_irrefl, evR, Nat.reduceAdd, Nat.reduceLT, Nat.reduceLeDiff, reduceIte, Nat.reduceEqDiff, reduceCtorEq, argEnv, eq_self, if_true, if_false, *]) | (rw [condK_bool]; split <;> simp only [c10_l0, hE, h3, Int.lt_irrefl, evR, Nat.reduceAdd, Nat.reduceLT, Nat.reduceLeDiff, reduceIte, Nat.reduceEqDiff, reduceCtorEq, argEnv, eq_self, if_true, if_false, *]))
      exact .exit (K := [_]) ⟨rfl, by rfl⟩) _ [] (by rfl) (by simp) z hz
  rcases L with ⟨ha, c, T, G, rfl, _, rfl, hT⟩ | ⟨ha, c, T, G, rfl, _, rfl, hT⟩
  · simp only [h3, hT, fn_eq, evR, Nat.reduceAdd, Nat.reduceLT, Nat.reduceLeDiff, reduceIte, Nat.reduceEqDiff, reduceCtorEq, argEnv, eq_self, if_true, if_false]
    repeat' (first | (rw [guardK_cases]; split <;> simp only [h3, hT, evR, Nat.reduceAdd, Nat.reduceLT, Nat.reduceLeDiff, reduceIte, Nat.reduceEqDiff, reduceCtorEq, argEnv, eq_self, if_true, if_false, *]) | (rw [condK_bool]; split <;> simp only [h3, hT, evR, Nat.reduceAdd, Nat.reduceLT, Nat.reduceLeDiff, reduceIte, Nat.reduceEqDiff, reduceCtorEq, argEnv, eq_self, if_true, if_false, *]))
    simp only [small, ha, evR, Nat.reduceAdd, Nat.reduceLT, Nat.reduceLeDiff, reduceIte, Nat.reduceEqDiff, reduceCtorEq, argEnv, eq_self, if_true, if_false]
  · simp only [hT, fn_eq, evR, Nat.reduceAdd, Nat.reduceLT, Nat.reduceLeDiff, reduceIte, Nat.reduceEqDiff, reduceCtorEq, argEnv, eq_self, if_true, if_false]
    repeat' (first | (rw [guardK_cases]; split <;> simp only [hT, evR, Nat.reduceAdd, Nat.reduceLT, Nat.reduceLeDiff, reduceIte, Nat.reduceEqDiff, reduceCtorEq, argEnv, eq_self, if_true, if_false, *]) | (rw [condK_bool]; split <;> simp only [hT, evR, Nat.reduceAdd, Nat.reduceLT, Nat.reduceLeDiff, reduceIte, Nat.reduceEqDiff, reduceCtorEq, argEnv, eq_self, if_true, if_false, *]))
    simp only [small, ha, evR, Nat.reduceAdd, Nat.reduceLT, Nat.reduceLeDiff, reduceIte, Nat.reduceEqDiff, reduceCtorEq, argEnv, eq_self, if_true, if_false]

section
variable (F F' : Int) (rows rows' : List Row) (rv rv' : AV) (H : Heap)
def k20 : Heap := [⟨0, true, 24, 2, [[.int .i64 F, rv]]⟩, ⟨0, true, 24, 2, [[.int .i64 F', rv']]⟩]
def e20 (i : Nat) : Env := [(2, .ptr H.length 0 2 0 0), (3, .ptr (H.length + 1) 0 2 0 0), (5, .int .i64 (i : Int))]
variable {F F' rows rows' rv rv' H}
theorem loop20 (hr : RowsAt H rv rows) (hr' : RowsAt H rv' rows') {i : Nat} {r r' : Row} (hx : rows[i]? = some r) (hx' : rows'[i]? = some r') (hl : r.2.length < 9223372036854775807) (he : r.2.length = r'.2.length)
    (st : St) (G : Heap) (hE : keepEnv st.1 [2, 3, 5, 6] = e20 H i ++ [(6, .int .i64 0)]) (hH : st.2 = H ++ (k20 F F' rv rv' ++ G)) (z : Option (CX × St)) (hz : itLim (evCode (evC cprog) itLim c20_l0) st = z) :
    (r.2 = r'.2 ∧ Lv H (k20 F F' rv rv') (fun c T => c = .exit 2 ∧ keepEnv T [2, 3, 5] = e20 H i) z) ∨ (r.2 ≠ r'.2 ∧ Lv H (k20 F F' rv rv') (fun c T => c = .ret ∧ get T 4 = some (.bool false)) z) := by
  obtain ⟨v, p, hv, hp, hat⟩ := hr.get hx
  obtain ⟨v', p', hv', hp', hat'⟩ := hr'.get hx'
  have h4 := hv.len
  have h4' := hv'.len
  simp only [List.length_map] at h4 h4'
  have L := scan_rule r.2 (fun k n => decide (r'.2[k]? = some n)) [2, 3, 5, 6] (fun k => e20 H i ++ [(6, .int .i64 (k : Int))]) H (k20 F F' rv rv') (evCode (evC cprog) itLim c20_l0) (fun c T => c = .exit 2 ∧ keepEnv T [2, 3, 5] = e20 H i) (fun _ _ c T => c = .ret ∧ get T 4 = some (.bool false))
    (fun k n hk E G hE => by
      have hlt : k < r.2.length := (List.getElem?_eq_some_iff.1 hk).1
      have hi : (k : Int) < (r.2.length : Int) := by omega
      obtain ⟨n', hn'⟩ : ∃ n', r'.2[k]? = some n' := ⟨_, List.getElem?_eq_getElem (by omega)⟩
      obtain ⟨_, q, hq, hqt⟩ := hv.get k [.int .i64 n] (by rw [List.getElem?_map, hk]; rfl)
      obtain ⟨_, q', hq', hqt'⟩ := hv'.get k [.int .i64 n'] (by rw [List.getElem?_map, hn']; rfl)
      simp only [e20, List.cons_append, List.nil_append] at hE
      simp only [k20]
      simp only [c20_l0, hE, h4, h4', hi, hp, hp', hat.faddr, hat.fldx, hat'.faddr, hat'.fldx, hq, hq', hqt.onex, hqt'.onex, wrapS hlt hl, fn_eq, evR, Nat.reduceAdd, Nat.reduceLT, Nat.reduceLeDiff, reduceIte, Nat.reduceEqDiff, reduceCtorEq, argEnv, eq_self, if_true, if_false]
      repeat' (first | (rw [guardK_cases]; split <;> simp only [c20_l0, hE, h4, h4', hi, hp, hp', hat.faddr, hat.fldx, hat'.faddr, hat'.fldx, hq, hq', hqt.onex, hqt'.onex, wrapS hlt hl, evR, Nat.reduceAdd, Nat.reduceLT, Nat.reduceLeDiff, reduceIte, Nat.reduceEqDiff, reduceCtorEq, argEnv, eq_self, if_true, if_false, *]) | (rw [condK_bool]; split <;> simp only [c20_l0, hE, h4, h4', hi, hp, hp', hat.faddr, hat.fldx, hat'.faddr, hat'.fldx, hq, hq', hqt.onex, hqt'.onex, wrapS hlt hl, evR, Nat.reduceAdd, Nat.reduceLT, Nat.reduceLeDiff, reduceIte, Nat.reduceEqDiff, reduceCtorEq, argEnv, eq_self, if_true, if_false, *]))
      all_goals first | exact Sc.next (by simp_all) (by rfl) | exact Sc.ret (by simp_all; omega) ⟨rfl, rfl⟩)
    (fun E G hE => by
      simp only [e20, List.cons_append, List.nil_append] at hE
      simp only [k20]
      simp only [c20_l0, hE, h4, h4', hp, hat.faddr, hat.fldx, Int.lt_irrefl, fn_eq, evR, Nat.reduceAdd, Nat.reduceLT, Nat.reduceLeDiff, reduceIte, Nat.reduceEqDiff, reduceCtorEq, argEnv, eq_self, if_true, if_false]
      repeat' (first | (rw [guardK_cases]; split <;> simp only [c20_l0, hE, h4, h4', hp, hat.faddr, hat.fldx, Int.lt_irrefl, evR, Nat.reduceAdd, Nat.reduceLT, Nat.reduceLeDiff, reduceIte, Nat.reduceEqDiff, reduceCtorEq, argEnv, eq_self, if_true, if_false, *]) | (rw [condK_bool]; split <;> simp only [c20_l0, hE, h4, h4', hp, hat.faddr, hat.fldx, Int.lt_irrefl, evR, Nat.reduceAdd, Nat.reduceLT, Nat.reduceLeDiff, reduceIte, Nat.reduceEqDiff, reduceCtorEq, argEnv, eq_self, if_true, if_false, *]))
      exact .exit ⟨rfl, by rfl⟩) st G hE hH z hz
  rcases L with ⟨ha, hL⟩ | ⟨k, n, hk, ha, _, hL⟩
  · refine .inl ⟨List.ext_getElem? fun k => ?_, hL⟩
    by_cases hk : k < r.2.length
    · obtain ⟨n, hn⟩ : ∃ n, r.2[k]? = some n := ⟨_, List.getElem?_eq_getElem hk⟩
      have := ha k n hn
      simp only [decide_eq_true_eq] at this
      rw [hn, this]
    · rw [List.getElem?_eq_none (by omega), List.getElem?_eq_none (by omega)]
  · refine .inr ⟨fun h => ?_, hL⟩
    rw [h] at hk
    simp [hk] at ha
end
theorem f20 (F F' : Int) (rows rows' : List Row) (rv rv' : AV) (H : Heap) (hr : RowsAt H rv rows) (hr' : RowsAt H rv' rows') (hl : rows.length < 9223372036854775807) (hvl : ∀ r ∈ rows, r.2.length < 9223372036854775807) :
    cal (evC cprog) false 20 [.agg [.int .i64 F, rv], .agg [.int .i64 F', rv']] H = some (.bool (tell (F = F' ∧ rows = rows')), H) := by
  rw [cal_of at20]
  have h3 := hr.len
  have h3' := hr'.len
  simp only [c20, h3, h3', fn_eq, evR, Nat.reduceAdd, Nat.reduceLT, Nat.reduceLeDiff, reduceIte, Nat.reduceEqDiff, reduceCtorEq, argEnv, eq_self, if_true, if_false]
  repeat' (first | (rw [guardK_cases]; split <;> simp only [c20, h3, h3', evR, Nat.reduceAdd, Nat.reduceLT, Nat.reduceLeDiff, reduceIte, Nat.reduceEqDiff, reduceCtorEq, argEnv, eq_self, if_true, if_false, *]) | (rw [condK_bool]; split <;> simp only [c20, h3, h3', evR, Nat.reduceAdd, Nat.reduceLT, Nat.reduceLeDiff, reduceIte, Nat.reduceEqDiff, reduceCtorEq, argEnv, eq_self, if_true, if_false, *]))
  · rename_i h
    rw [tell_neg (fun h' => by simp_all)]
  · rename_i h0 h
    rw [tell_neg (fun h' => by simp_all)]
  rename_i h0 h1
  have hlen : rows.length = rows'.length := by simp at h1; omega
  have hF : F = F' := by simpa using h0
  subst hF
  generalize hz : itLim _ _ = z
  have L := scan_rule rows (fun i r => tell (rows'[i]? = some r)) [2, 3, 5] (fun i => e20 H i) H (k20 F F rv rv') (evCode (evC cprog) itLim c20_l1) (fun c T => c = .exit 0) (fun _ _ c T => c = .ret ∧ get T 4 = some (.bool false))
    (fun i r hx E G hE => by
      have hlt : i < rows.length := (List.getElem?_eq_some_iff.1 hx).1
      have hi : (i : Int) < (rows.length : Int) := by omega
      obtain ⟨r', hx'⟩ : ∃ r', rows'[i]? = some r' := ⟨_, List.getElem?_eq_getElem (by omega)⟩
      obtain ⟨v, p, hv, hp, hat⟩ := hr.get hx
      obtain ⟨v', p', hv', hp', hat'⟩ := hr'.get hx'
      have h4 := hv.len
      have h4' := hv'.len
      simp only [List.length_map] at h4 h4'
      have hin := loop20 (F := F) (F' := F) hr hr' hx hx' (hvl r (List.mem_of_getElem? hx))
      have hok : tell (rows'[i]? = some r) = tell (r'.1 = r.1 ∧ r'.2 = r.2) := by
        rw [hx']
        congr 1
        rw [Option.some.injEq, Prod.ext_iff]
      rw [hok]
      simp only [k20] at hin ⊢
      simp only [e20] at hE
      simp only [c20_l1, hE, h3, h3', h4, h4', hi, hp, hp', hat.faddr, hat.fldx, hat'.faddr, hat'.fldx, wrapS hlt hl, fn_eq, evR, Nat.reduceAdd, Nat.reduceLT, Nat.reduceLeDiff, reduceIte, Nat.reduceEqDiff, reduceCtorEq, argEnv, eq_self, if_true, if_false]
      repeat' (first | (rw [guardK_cases]; split <;> simp only [c20_l1, hE, h3, h3', h4, h4', hi, hp, hp', hat.faddr, hat.fldx, hat'.faddr, hat'.fldx, wrapS hlt hl, evR, Nat.reduceAdd, Nat.reduceLT, Nat.reduceLeDiff, reduceIte, Nat.reduceEqDiff, reduceCtorEq, argEnv, eq_self, if_true, if_false, *]) | (rw [condK_bool]; split <;> simp only [c20_l1, hE, h3, h3', h4, h4', hi, hp, hp', hat.faddr, hat.fldx, hat'.faddr, hat'.fldx, wrapS hlt hl, evR, Nat.reduceAdd, Nat.reduceLT, Nat.reduceLeDiff, reduceIte, Nat.reduceEqDiff, reduceCtorEq, argEnv, eq_self, if_true, if_false, *]))
      · rename_i g0
        exact Sc.ret (tell_neg fun h' => by rw [h'.1] at g0; simp at g0) ⟨rfl, rfl⟩
      · rename_i g0 g1
        exact Sc.ret (tell_neg fun h' => by rw [h'.2] at g1; simp at g1) ⟨rfl, rfl⟩
      · rename_i g0 g1
        have g2 : r.2.length = r'.2.length := by simp at g1; omega
        have g3 : r.1 = r'.1 := by simpa using g0
        generalize hz : itLim _ _ = z
        rcases hin g2 _ G (by rfl) rfl z hz with ⟨ha, c, T, G', rfl, _, rfl, hT⟩ | ⟨ha, c, T, G', rfl, _, rfl, hT⟩
        · simp only [e20] at hT
          simp only [hT, wrapS hlt hl, fn_eq, evR, Nat.reduceAdd, Nat.reduceLT, Nat.reduceLeDiff, reduceIte, Nat.reduceEqDiff, reduceCtorEq, argEnv, eq_self, if_true, if_false]
          repeat' (first | (rw [guardK_cases]; split <;> simp only [hT, wrapS hlt hl, evR, Nat.reduceAdd, Nat.reduceLT, Nat.reduceLeDiff, reduceIte, Nat.reduceEqDiff, reduceCtorEq, argEnv, eq_self, if_true, if_false, *]) | (rw [condK_bool]; split <;> simp only [hT, wrapS hlt hl, evR, Nat.reduceAdd, Nat.reduceLT, Nat.reduceLeDiff, reduceIte, Nat.reduceEqDiff, reduceCtorEq, argEnv, eq_self, if_true, if_false, *]))
          exact Sc.next (tell_pos ⟨g3.symm, ha.symm⟩) (by rfl)
        · simp only [hT, fn_eq, evR, Nat.reduceAdd, Nat.reduceLT, Nat.reduceLeDiff, reduceIte, Nat.reduceEqDiff, reduceCtorEq, argEnv, eq_self, if_true, if_false]
          repeat' (first | (rw [guardK_cases]; split <;> simp only [hT, evR, Nat.reduceAdd, Nat.reduceLT, Nat.reduceLeDiff, reduceIte, Nat.reduceEqDiff, reduceCtorEq, argEnv, eq_self, if_true, if_false, *]) | (rw [condK_bool]; split <;> simp only [hT, evR, Nat.reduceAdd, Nat.reduceLT, Nat.reduceLeDiff, reduceIte, Nat.reduceEqDiff, reduceCtorEq, argEnv, eq_self, if_true, if_false, *]))
          exact Sc.ret (tell_neg fun h => ha h.2.symm) ⟨rfl, hT⟩)
    (fun E G hE => by
      simp only [e20] at hE
      simp only [k20]
      simp only [c20_l1, hE, h3, Int.lt_irrefl, fn_eq, evR, Nat.reduceAdd, Nat.reduceLT, Nat.reduceLeDiff, reduceIte, Nat.reduceEqDiff, reduceCtorEq, argEnv, eq_self, if_true, if_false]
      repeat' (first | (rw [guardK_cases]; split <;> simp only [c20_l1, hE, h3, Int.lt_irrefl, evR, Nat.reduceAdd, Nat.reduceLT, Nat.reduceLeDiff, reduceIte, Nat.reduceEqDiff, reduceCtorEq, argEnv, eq_self, if_true, if_false, *]) | (rw [condK_bool]; split <;> simp only [c20_l1, hE, h3, Int.lt_irrefl, evR, Nat.reduceAdd, Nat.reduceLT, Nat.reduceLeDiff, reduceIte, Nat.reduceEqDiff, reduceCtorEq, argEnv, eq_self, if_true, if_false, *]))
      exact .exit rfl) _ [] (by rfl) (by simp [k20]) z hz
  rcases L with ⟨ha, c, T, G, rfl, _, rfl⟩ | ⟨i, r, hx, ha, _, c, T, G, rfl, _, rfl, hT⟩
  · simp only [h3, fn_eq, evR, Nat.reduceAdd, Nat.reduceLT, Nat.reduceLeDiff, reduceIte, Nat.reduceEqDiff, reduceCtorEq, argEnv, eq_self, if_true, if_false]
    repeat' (first | (rw [guardK_cases]; split <;> simp only [h3, evR, Nat.reduceAdd, Nat.reduceLT, Nat.reduceLeDiff, reduceIte, Nat.reduceEqDiff, reduceCtorEq, argEnv, eq_self, if_true, if_false, *]) | (rw [condK_bool]; split <;> simp only [h3, evR, Nat.reduceAdd, Nat.reduceLT, Nat.reduceLeDiff, reduceIte, Nat.reduceEqDiff, reduceCtorEq, argEnv, eq_self, if_true, if_false, *]))
    rw [tell_pos (List.ext_getElem? fun i => ?_)]
    by_cases hi : i < rows.length
    · obtain ⟨r, hr⟩ : ∃ r, rows[i]? = some r := ⟨_, List.getElem?_eq_getElem hi⟩
      rw [hr, tell_true.1 (ha i r hr)]
    · rw [List.getElem?_eq_none (by omega), List.getElem?_eq_none (by omega)]
  · simp only [hT, fn_eq, evR, Nat.reduceAdd, Nat.reduceLT, Nat.reduceLeDiff, reduceIte, Nat.reduceEqDiff, reduceCtorEq, argEnv, eq_self, if_true, if_false]
    repeat' (first | (rw [guardK_cases]; split <;> simp only [hT, evR, Nat.reduceAdd, Nat.reduceLT, Nat.reduceLeDiff, reduceIte, Nat.reduceEqDiff, reduceCtorEq, argEnv, eq_self, if_true, if_false, *]) | (rw [condK_bool]; split <;> simp only [hT, evR, Nat.reduceAdd, Nat.reduceLT, Nat.reduceLeDiff, reduceIte, Nat.reduceEqDiff, reduceCtorEq, argEnv, eq_self, if_true, if_false, *]))
    rw [tell_neg fun h => ?_]
    rw [tell_false, ← h] at ha
    exact ha hx
end Go.Proofs.Ytehcdcnghcbimaa.Code

/- fast: a table with memory of its own. -/
set_option linter.unusedSimpArgs false
set_option linter.unusedVariables false
namespace Go.Proofs.Ytehcdcnghcbimaa.Code
open Go.Proofs.Ytehcdcnghcbimaa.Ev

/-- where the rows and the values lie -/
structure OwnL (B N b v : Nat) (vb : List (Nat × Nat)) (H : Heap) (rows : List Row) : Prop where
  len : vb.length = rows.length
  blk : B ≤ b ∧ b < N ∧ ∃ k, curBlk H b v 2 = some k ∧ ∀ (i : Nat) (r : Row) (w : Nat × Nat), rows[i]? = some r → vb[i]? = some w → k.els[i]? = some [.str r.1, .ref w.1 w.2 1 0 r.2.length]
  vals : ∀ (i : Nat) (r : Row) (w : Nat × Nat), rows[i]? = some r → vb[i]? = some w → B ≤ w.1 ∧ w.1 < N ∧ w.1 ≠ b ∧ ∃ k, curBlk H w.1 w.2 1 = some k ∧ ∀ (j : Nat) (n : Int), r.2[j]? = some n → k.els[j]? = some [.int .i64 n]
  inj : ∀ (i j : Nat) (w u : Nat × Nat), vb[i]? = some w → vb[j]? = some u → i ≠ j → w.1 ≠ u.1
structure Own (H0 : Heap) (N : Nat) (rv : AV) (rows : List Row) (H : Heap) : Prop where
  pre : H.take H0.length = H0
  le : H0.length ≤ N ∧ N ≤ H.length
  tab : (rows = [] ∧ (rv = .nil0 ∨ rv = .nils)) ∨ ∃ b v vb, rv = .ref b v 2 0 rows.length ∧ OwnL H0.length N b v vb H rows

theorem curBlk_of {H H' : Heap} {b v s : Nat} (h : H'[b]? = H[b]?) : curBlk H' b v s = curBlk H b v s := by unfold curBlk; rw [h]
theorem OwnL.move {B N b v : Nat} {vb : List (Nat × Nat)} {H H' : Heap} {rows : List Row} (h : OwnL B N b v vb H rows) (he : ∀ g, B ≤ g → g < N → H'[g]? = H[g]?) : OwnL B N b v vb H' rows := by
  obtain ⟨k, hk, hr⟩ := h.blk.2.2
  refine ⟨h.len, ⟨h.blk.1, h.blk.2.1, k, by rw [curBlk_of (he b h.blk.1 h.blk.2.1)]; exact hk, hr⟩, fun i r w hr hw => ?_, h.inj⟩
  obtain ⟨h1, h2, h3, k, h4, h5⟩ := h.vals i r w hr hw
  exact ⟨h1, h2, h3, k, by rw [curBlk_of (he w.1 h1 h2)]; exact h4, h5⟩
theorem Own.app {H0 : Heap} {N : Nat} {rv : AV} {rows : List Row} {H : Heap} (h : Own H0 N rv rows H) (X : Heap) : Own H0 N rv rows (H ++ X) := by
  have hle := h.le
  refine ⟨by rw [List.take_append_of_le_length (by omega)]; exact h.pre, ⟨hle.1, by simp; omega⟩, ?_⟩
  rcases h.tab with h1 | ⟨b, v, vb, h1, h2⟩
  · exact .inl h1
  · exact .inr ⟨b, v, vb, h1, h2.move fun g _ hg => List.getElem?_append_left (by omega)⟩
theorem Own.trunc {H0 : Heap} {N : Nat} {rv : AV} {rows : List Row} {H H1 : Heap} (h : Own H0 N rv rows H1) (hN : N ≤ H.length) (ht : H1.take H.length = H) : Own H0 N rv rows H := by
  have hle := h.le
  refine ⟨by rw [← ht, List.take_take, Nat.min_eq_left (by omega)]; exact h.pre, ⟨hle.1, hN⟩, ?_⟩
  rcases h.tab with h1 | ⟨b, v, vb, h1, h2⟩
  · exact .inl h1
  · exact .inr ⟨b, v, vb, h1, h2.move fun g _ hg => by rw [← ht, List.getElem?_take_of_lt (by omega)]⟩
theorem Own.swap {H1 H1' G : Heap} {N : Nat} {rv : AV} {rows : List Row} (h : Own H1 N rv rows (H1 ++ G)) (hl : H1'.length = H1.length) : Own H1' N rv rows (H1' ++ G) := by
  have hle := h.le
  refine ⟨by simp, by rw [hl]; exact ⟨hle.1, by simp at hle ⊢; omega⟩, ?_⟩
  rcases h.tab with h1 | ⟨b, v, vb, h1, h2⟩
  · exact .inl h1
  · refine .inr ⟨b, v, vb, h1, ?_⟩
    rw [hl]
    exact h2.move fun g hg _ => by rw [List.getElem?_append_right (by omega), List.getElem?_append_right (by omega), hl]
theorem Own.rowsAt {H0 : Heap} {N : Nat} {rv : AV} {rows : List Row} {H : Heap} (h : Own H0 N rv rows H) : RowsAt H rv rows := by
  rcases h.tab with ⟨rfl, rfl | rfl⟩ | ⟨b, v, vb, rfl, hL⟩
  · exact ⟨[], ⟨rfl, fun i row hi => by simp at hi⟩, rfl, fun i r hr => by simp at hr⟩
  · exact ⟨[], ⟨rfl, fun i row hi => by simp at hi⟩, rfl, fun i r hr => by simp at hr⟩
  · obtain ⟨_, _, k, hk, hrow⟩ := hL.blk
    have hlen := hL.len
    have hw : ∀ (i : Nat) (r : Row), rows[i]? = some r → ∃ w, vb[i]? = some w := fun i r hr => ⟨_, List.getElem?_eq_getElem (by have := (List.getElem?_eq_some_iff.1 hr).1; omega)⟩
    have hz : ∀ (i : Nat) (r : Row) (w : Nat × Nat), rows[i]? = some r → vb[i]? = some w → (List.zipWith (fun (r : Row) (w : Nat × Nat) => [AV.str r.1, AV.ref w.1 w.2 1 0 r.2.length]) rows vb)[i]? = some [.str r.1, .ref w.1 w.2 1 0 r.2.length] := fun i r w hr hw => by
      rw [List.getElem?_zipWith, hr, hw]
    have hzl : (List.zipWith (fun (r : Row) (w : Nat × Nat) => [AV.str r.1, AV.ref w.1 w.2 1 0 r.2.length]) rows vb).length = rows.length := by simp; omega
    refine ⟨List.zipWith (fun (r : Row) (w : Nat × Nat) => [AV.str r.1, AV.ref w.1 w.2 1 0 r.2.length]) rows vb, ?_, hzl, fun i r hr => ?_⟩
    · have := SlAt.ref (off := 0) (rows := List.zipWith (fun (r : Row) (w : Nat × Nat) => [AV.str r.1, AV.ref w.1 w.2 1 0 r.2.length]) rows vb) hk fun i row hi => by
        have hil : i < rows.length := by have := (List.getElem?_eq_some_iff.1 hi).1; omega
        obtain ⟨r, hr⟩ : ∃ r, rows[i]? = some r := ⟨_, List.getElem?_eq_getElem hil⟩
        obtain ⟨w, hw⟩ := hw i r hr
        rw [hz i r w hr hw] at hi
        cases hi
        exact ⟨rfl, by rw [Nat.zero_add]; exact hrow i r w hr hw⟩
      rw [hzl] at this
      exact this
    · obtain ⟨w, hw⟩ := hw i r hr
      refine ⟨_, hz i r w hr hw, ?_⟩
      obtain ⟨_, _, _, k', hk', hv⟩ := hL.vals i r w hr hw
      have := SlAt.ref (off := 0) (rows := r.2.map fun n => [AV.int .i64 n]) hk' fun j row hj => by
        rw [List.getElem?_map] at hj
        cases hn : r.2[j]? with
        | none => simp [hn] at hj
        | some n =>
          simp only [hn, Option.map_some, Option.some.injEq] at hj
          subst hj
          exact ⟨rfl, by rw [Nat.zero_add]; exact hv j n hn⟩
      rw [List.length_map] at this
      exact this
theorem RowsAt.pairs {H : Heap} {rv : AV} {rows : List Row} (h : RowsAt H rv rows) : ∃ l : List (ByteArray × AV), SlAt H 2 rv (l.map fun x => [.str x.1, x.2]) ∧ l.length = rows.length ∧ ∀ (i : Nat) (r : Row), rows[i]? = some r → ∃ v, l[i]? = some (r.1, v) := by
  obtain ⟨rws, h1, h2, h3⟩ := h.rws
  let f : List AV → ByteArray × AV := fun r => match r with
    | [.str s, v] => (s, v)
    | _ => (ByteArray.empty, .nils)
  have e : (rws.map f).map (fun x => [AV.str x.1, x.2]) = rws := by
    apply List.ext_getElem?
    intro i
    rw [List.getElem?_map, List.getElem?_map]
    by_cases hi : i < rows.length
    · obtain ⟨r, hr⟩ : ∃ r, rows[i]? = some r := ⟨_, List.getElem?_eq_getElem hi⟩
      obtain ⟨v, k1, _⟩ := h3 i r hr
      rw [k1]; rfl
    · rw [List.getElem?_eq_none (by omega)]; rfl
  refine ⟨rws.map f, by rw [e]; exact h1, by simp [h2], fun i r hr => ?_⟩
  obtain ⟨v, k1, _⟩ := h3 i r hr
  exact ⟨v, by rw [List.getElem?_map, k1]; rfl⟩
theorem idxOf_congr {α β : Type} (p : α → Bool) (q : β → Bool) : ∀ (l : List α) (m : List β), l.length = m.length → (∀ (i : Nat) x y, l[i]? = some x → m[i]? = some y → p x = q y) → l.findIdx? p = m.findIdx? q
  | [], [], _, _ => rfl
  | [], _ :: _, h, _ => by simp at h
  | _ :: _, [], h, _ => by simp at h
  | x :: l, y :: m, h, hp => by
    rw [List.findIdx?_cons, List.findIdx?_cons, hp 0 x y rfl rfl, idxOf_congr p q l m (by simpa using h) fun i a b ha hb => hp (i + 1) a b (by simpa using ha) (by simpa using hb)]
theorem f74 (k : ByteArray) (v : AV) (c : Fld) (bc : Nat) (H : Heap) (hb : ∀ X, (H ++ X)[bc]? = some ⟨0, true, 37, 4, [rFld c]⟩) :
    cal (evC cprog) false 74 [.agg [.str k, v], .ptr bc 0 4 0 0] H = some (.bool (decide (k = c.key)), H) := by
  rw [cal_of at74]
  simp only [rFld] at hb
  simp only [c74, hb, fn_eq, evR, Nat.reduceAdd, Nat.reduceLT, Nat.reduceLeDiff, reduceIte, Nat.reduceEqDiff, reduceCtorEq, argEnv, eq_self, if_true, if_false]
  repeat' (first | (rw [guardK_cases]; split <;> simp only [c74, hb, evR, Nat.reduceAdd, Nat.reduceLT, Nat.reduceLeDiff, reduceIte, Nat.reduceEqDiff, reduceCtorEq, argEnv, eq_self, if_true, if_false, *]) | (rw [condK_bool]; split <;> simp only [c74, hb, evR, Nat.reduceAdd, Nat.reduceLT, Nat.reduceLeDiff, reduceIte, Nat.reduceEqDiff, reduceCtorEq, argEnv, eq_self, if_true, if_false, *]))
theorem f73 (rows : List Row) (rv : AV) (c : Fld) (bc : Nat) (H : Heap) (hl : rows.length < 9223372036854775807) (hr : RowsAt H rv rows) (hb : ∀ X, (H ++ X)[bc]? = some ⟨0, true, 37, 4, [rFld c]⟩) :
    cal (evC cprog) false 73 [rv, .fn 74 [.ptr bc 0 4 0 0]] H = some (.int .i64 (idxOf (fun (r : Row) => decide (r.1 = c.key)) rows), H) := by
  obtain ⟨l, h1, h2, h3⟩ := hr.pairs
  have := indexFunc_ok (sz := 2) (ag := true) at73 (fun (x : ByteArray × AV) => [.str x.1, x.2]) (fun x => .agg [.str x.1, x.2]) (fun x => ⟨rfl, rfl⟩) 74 [.ptr bc 0 4 0 0] (fun x => decide (x.1 = c.key)) H rv l h1 (by omega) fun x _ => f74 x.1 x.2 c bc H hb
  rw [this]
  unfold idxOf
  rw [idxOf_congr (fun x => decide (x.1 = c.key)) (fun (r : Row) => decide (r.1 = c.key)) l rows h2 fun i x y hx hy => by
    obtain ⟨v, hv⟩ := h3 i y hy
    rw [hv] at hx; cases hx; rfl]
end Go.Proofs.Ytehcdcnghcbimaa.Code

/- fast: one call on a table. -/
set_option linter.unusedSimpArgs false
set_option linter.unusedVariables false
namespace Go.Proofs.Ytehcdcnghcbimaa.Code
open Go.Proofs.Ytehcdcnghcbimaa.Ev

def sVe : ByteArray := ⟨#[86, 61]⟩
def sVl : ByteArray := ⟨#[86, 60]⟩
def sVg : ByteArray := ⟨#[86, 62]⟩
def sPl : ByteArray := ⟨#[43]⟩
def sMi : ByteArray := ⟨#[45]⟩
def sEq : ByteArray := ⟨#[61]⟩
def sGE : ByteArray := ⟨#[71, 69]⟩
def sFI : ByteArray := ⟨#[70, 73]⟩
def sFV : ByteArray := ⟨#[70, 86]⟩
def sFO : ByteArray := ⟨#[70, 79]⟩
def sOk : ByteArray := ⟨#[32, 32]⟩
def holds (c : Fld) (n : Int) : Bool := if c.op = sVe then decide (n = c.n) else if c.op = sVl then decide (n < c.n) else if c.op = sVg then decide (c.n < n) else true
def next (c : Fld) (n : Int) : Int := if c.op = sVe then n else if c.op = sVl then n else if c.op = sVg then n else if c.op = sPl then n + c.n else if c.op = sMi then n - c.n else if c.op = sEq then c.n else n
def valAt (rows : List Row) (i f : Nat) : Int := match rows[i]? with
  | some r => (r.2[f]?).getD 0
  | none => 0
def putAt (rows : List Row) (i f : Nat) (n : Int) : List Row := match rows[i]? with
  | some r => rows.set i (r.1, r.2.set f n)
  | none => rows
def doOne (F : Int) (rows : List Row) (c : Fld) : ByteArray × List Row :=
  if idxOf (fun (r : Row) => decide (r.1 = c.key)) rows < 0 then (sGE, rows)
  else if c.field < 0 ∨ F ≤ c.field ∨ isCall c = false then (sFI, rows)
  else if holds c (valAt rows (idxOf (fun (r : Row) => decide (r.1 = c.key)) rows).toNat c.field.toNat) = false then (sFV, rows)
  else if isAmount (next c (valAt rows (idxOf (fun (r : Row) => decide (r.1 = c.key)) rows).toNat c.field.toNat)) = false then (sFO, rows)
  else (sOk, putAt rows (idxOf (fun (r : Row) => decide (r.1 = c.key)) rows).toNat c.field.toNat (next c (valAt rows (idxOf (fun (r : Row) => decide (r.1 = c.key)) rows).toNat c.field.toNat)))

theorem OwnL.set {B N b v : Nat} {vb : List (Nat × Nat)} {H : Heap} {rows : List Row} (h : OwnL B N b v vb H rows) {i : Nat} {r : Row} {w : Nat × Nat} (hr : rows[i]? = some r) (hw : vb[i]? = some w) {f : Nat} (hf : f < r.2.length) (n : Int)
    {k : Blk} (hk : curBlk H w.1 w.2 1 = some k) (hN : N ≤ H.length) :
    OwnL B N b v vb (H.set w.1 { k with els := k.els.set f [.int .i64 n] }) (rows.set i (r.1, r.2.set f n)) := by
  obtain ⟨h1, h2, h3, k0, h4, h5⟩ := h.vals i r w hr hw
  rw [hk] at h4; cases h4
  have hil : i < rows.length := (List.getElem?_eq_some_iff.1 hr).1
  have hget : ∀ (j : Nat) (r' : Row), (rows.set i (r.1, r.2.set f n))[j]? = some r' → (j = i ∧ r' = (r.1, r.2.set f n)) ∨ (j ≠ i ∧ rows[j]? = some r') := fun j r' hj => by
    by_cases hji : j = i
    · subst hji
      rw [List.getElem?_set_self hil] at hj
      cases hj; exact .inl ⟨rfl, rfl⟩
    · rw [List.getElem?_set_ne (fun e => hji e.symm)] at hj
      exact .inr ⟨hji, hj⟩
  have hne : ∀ g, g ≠ w.1 → (H.set w.1 { k with els := k.els.set f [.int .i64 n] })[g]? = H[g]? := fun g hg => List.getElem?_set_ne (fun e => hg e.symm)
  have hself : curBlk (H.set w.1 { k with els := k.els.set f [.int .i64 n] }) w.1 w.2 1 = some { k with els := k.els.set f [.int .i64 n] } := by
    unfold curBlk at hk ⊢
    rw [List.getElem?_set_self (by omega)]
    cases hh : H[w.1]? with
    | none => simp [hh] at hk
    | some k' =>
      rw [hh] at hk
      simp only at hk ⊢
      split at hk
      · rename_i hc; cases hk; rw [if_pos hc]
      · cases hk
  obtain ⟨b1, b2, kb, b3, b4⟩ := h.blk
  refine ⟨by rw [List.length_set]; exact h.len, ⟨b1, b2, kb, by rw [curBlk_of (hne b (fun e => h3 e.symm))]; exact b3, fun j r' w' hj hw' => ?_⟩, fun j r' w' hj hw' => ?_, h.inj⟩
  · rcases hget j r' hj with ⟨rfl, rfl⟩ | ⟨_, hj'⟩
    · rw [hw] at hw'; cases hw'
      rw [b4 j r w hr hw]; simp
    · exact b4 j r' w' hj' hw'
  · rcases hget j r' hj with ⟨rfl, rfl⟩ | ⟨hji, hj'⟩
    · rw [hw] at hw'; cases hw'
      refine ⟨h1, h2, h3, _, hself, fun a m ha => ?_⟩
      simp only at ha ⊢
      by_cases haf : a = f
      · subst haf
        rw [List.getElem?_set_self (by simpa using hf)] at ha
        cases ha
        obtain ⟨m0, hm0⟩ : ∃ m, r.2[a]? = some m := ⟨_, List.getElem?_eq_getElem hf⟩
        rw [List.getElem?_set_self (List.getElem?_eq_some_iff.1 (h5 a m0 hm0)).1]
      · rw [List.getElem?_set_ne (fun e => haf e.symm)] at ha ⊢
        exact h5 a m ha
    · obtain ⟨c1, c2, c3, kc, c4, c5⟩ := h.vals j r' w' hj' hw'
      exact ⟨c1, c2, c3, kc, by rw [curBlk_of (hne w'.1 (h.inj j i w' w hw' hw hji))]; exact c4, c5⟩
/-- what lies above stays -/
def Keep (N : Nat) (H H' : Heap) : Prop := H.length ≤ H'.length ∧ ∀ g, N ≤ g → g < H.length → H'[g]? = H[g]?
theorem Keep.refl (N : Nat) (H : Heap) : Keep N H H := ⟨Nat.le_refl _, fun _ _ _ => rfl⟩
theorem Keep.app (N : Nat) (H X : Heap) : Keep N H (H ++ X) := ⟨by simp, fun g _ hg => List.getElem?_append_left hg⟩
theorem Keep.set {N : Nat} {H H' : Heap} (h : Keep N H H') {g : Nat} (hg : g < N) (k : Blk) : Keep N H (H'.set g k) :=
  ⟨by rw [List.length_set]; exact h.1, fun j hj hl => by rw [List.getElem?_set_ne (by omega)]; exact h.2 j hj hl⟩
theorem Keep.trans {N : Nat} {H H' H'' : Heap} (h : Keep N H H') (h' : Keep N H' H'') : Keep N H H'' :=
  ⟨Nat.le_trans h.1 h'.1, fun g hg hl => by rw [h'.2 g hg (by have := h.1; omega), h.2 g hg hl]⟩
theorem isCall_op {c : Fld} (h : isCall c = true) : c.op = sVe ∨ c.op = sVl ∨ c.op = sVg ∨ c.op = sPl ∨ c.op = sMi ∨ c.op = sEq := by
  simp only [isCall, isOp, ops, Bool.and_eq_true, List.any_cons, List.any_nil, Bool.or_eq_true, decide_eq_true_eq, Bool.or_false] at h
  exact h.1
set_option maxHeartbeats 4000000 in
theorem f56 {H0 : Heap} {N : Nat} {rv : AV} {rows : List Row} {H : Heap} (hO : Own H0 N rv rows H) {F : Int} (hl : rows.length < 9223372036854775807) (hF : ∀ r ∈ rows, (r.2.length : Int) = F) (hA : ∀ r ∈ rows, ∀ n ∈ r.2, isAmount n = true) (c : Fld) :
    ∃ H', cal (evC cprog) false 56 [.agg [.int .i64 F, rv], .agg (rFld c)] H = some (.str (doOne F rows c).1, H') ∧ Own H0 N rv (doOne F rows c).2 H' ∧ Keep N H H' := by
  have h73 : ∀ X, cal (evC cprog) false 73 [rv, .fn 74 [.ptr (H.length + 1) 0 4 0 0]] (H ++ (⟨0, true, 24, 2, [[.int .i64 F, rv]]⟩ :: ⟨0, true, 37, 4, [rFld c]⟩ :: X)) = some (.int .i64 (idxOf (fun (r : Row) => decide (r.1 = c.key)) rows), H ++ (⟨0, true, 24, 2, [[.int .i64 F, rv]]⟩ :: ⟨0, true, 37, 4, [rFld c]⟩ :: X)) := fun X =>
    f73 rows rv c (H.length + 1) _ hl (hO.app _).rowsAt fun Y => by simp only [evR, Nat.reduceAdd, Nat.reduceLT, Nat.reduceLeDiff, reduceIte, Nat.reduceEqDiff, reduceCtorEq, argEnv, eq_self, if_true, if_false]
  have h54 := f54 c
  simp only [rFld] at h73 h54
  rw [cal_of at56]
  by_cases h1 : idxOf (fun (r : Row) => decide (r.1 = c.key)) rows < 0
  · simp only [c56, rFld, h73, h1, AV.scal, fn_eq, evR, Nat.reduceAdd, Nat.reduceLT, Nat.reduceLeDiff, reduceIte, Nat.reduceEqDiff, reduceCtorEq, argEnv, eq_self, if_true, if_false]
    repeat' (first | (rw [guardK_cases]; split <;> simp only [c56, rFld, h73, h1, AV.scal, evR, Nat.reduceAdd, Nat.reduceLT, Nat.reduceLeDiff, reduceIte, Nat.reduceEqDiff, reduceCtorEq, argEnv, eq_self, if_true, if_false, *]) | (rw [condK_bool]; split <;> simp only [c56, rFld, h73, h1, AV.scal, evR, Nat.reduceAdd, Nat.reduceLT, Nat.reduceLeDiff, reduceIte, Nat.reduceEqDiff, reduceCtorEq, argEnv, eq_self, if_true, if_false, *]))
    exact ⟨H, by simp only [doOne, h1, if_true]; rfl, by simp only [doOne, h1, if_true]; exact hO, .refl _ _⟩
  by_cases h2 : c.field < 0 ∨ F ≤ c.field ∨ isCall c = false
  · have hd : doOne F rows c = (sFI, rows) := by simp only [doOne, h1, h2, if_true, if_false]
    rw [hd]
    refine ⟨H, ?_, hO, .refl _ _⟩
    simp only [c56, rFld, h73, h54, h1, AV.scal, fn_eq, evR, Nat.reduceAdd, Nat.reduceLT, Nat.reduceLeDiff, reduceIte, Nat.reduceEqDiff, reduceCtorEq, argEnv, eq_self, if_true, if_false]
    repeat' (first | (rw [guardK_cases]; split <;> simp only [c56, rFld, h73, h54, h1, AV.scal, evR, Nat.reduceAdd, Nat.reduceLT, Nat.reduceLeDiff, reduceIte, Nat.reduceEqDiff, reduceCtorEq, argEnv, eq_self, if_true, if_false, *]) | (rw [condK_bool]; split <;> simp only [c56, rFld, h73, h54, h1, AV.scal, evR, Nat.reduceAdd, Nat.reduceLT, Nat.reduceLeDiff, reduceIte, Nat.reduceEqDiff, reduceCtorEq, argEnv, eq_self, if_true, if_false, *]))
    all_goals first | rfl | (exfalso; simp_all; done) | (exfalso; simp_all; omega)
  obtain ⟨i, hi⟩ : ∃ i, rows.findIdx? (fun (r : Row) => decide (r.1 = c.key)) = some i := by
    cases h : rows.findIdx? (fun (r : Row) => decide (r.1 = c.key)) with
    | none => exact absurd (by unfold idxOf; rw [h]; decide) h1
    | some i => exact ⟨i, rfl⟩
  have hidx : idxOf (fun (r : Row) => decide (r.1 = c.key)) rows = (i : Int) := by unfold idxOf; rw [hi]
  have hil : i < rows.length := (List.findIdx?_eq_some_iff_getElem.1 hi).1
  obtain ⟨r, hr⟩ : ∃ r, rows[i]? = some r := ⟨_, List.getElem?_eq_getElem hil⟩
  have hrm := List.mem_of_getElem? hr
  have hcall : isCall c = true := by cases h : isCall c <;> simp_all
  obtain ⟨f, hf⟩ : ∃ f : Nat, c.field = f := ⟨c.field.toNat, by omega⟩
  have hfl : f < r.2.length := by have := hF r hrm; omega
  obtain ⟨n, hn⟩ : ∃ n, r.2[f]? = some n := ⟨_, List.getElem?_eq_getElem hfl⟩
  have hnA := hA r hrm n (List.mem_of_getElem? hn)
  have hcA : isAmount c.n = true := by simp only [isCall, Bool.and_eq_true] at hcall; exact hcall.2
  have hadd : IntKind.i64.wrap (n + c.n) = n + c.n := by simp [isAmount] at hnA hcA; exact wrap_i64 (by omega) (by omega)
  have hsub : IntKind.i64.wrap (n - c.n) = n - c.n := by simp [isAmount] at hnA hcA; exact wrap_i64 (by omega) (by omega)
  rcases hO.tab with ⟨rfl, _⟩ | ⟨b, v, vb, rfl, hL⟩
  · simp at hil
  obtain ⟨w, hw⟩ : ∃ w, vb[i]? = some w := ⟨_, List.getElem?_eq_getElem (by have := hL.len; omega)⟩
  obtain ⟨_, _, kb, hkb, hrow⟩ := hL.blk
  obtain ⟨_, _, _, kw, hkw, hval⟩ := hL.vals i r w hr hw
  have hkbx : ∀ X, blkK (H ++ X)[b]? v 2 = some kb := fun X => curBlk_app hkb
  have hkwx : ∀ X, blkK (H ++ X)[w.1]? w.2 1 = some kw := fun X => curBlk_app hkw
  simp only [hidx, hf] at h73 h54
  rw [hidx] at h1
  rw [hf] at h2
  have hre := hrow i r w hr hw
  have hne := hval f n hn
  have hd : doOne F rows c = if holds c n = false then (sFV, rows) else if isAmount (next c n) = false then (sFO, rows) else (sOk, rows.set i (r.1, r.2.set f (next c n))) := by
    have e1 : valAt rows i f = n := by simp [valAt, hr, hn]
    simp only [doOne, h1, h2, if_false, hidx, Int.toNat_natCast, hf, e1, putAt, hr]
  have hset := fun m X => (hL.move (H' := H ++ X) fun g _ hg => List.getElem?_append_left (by have := hO.le; omega)).set hr hw hfl m (curBlk_app (G := X) hkw) (by have := hO.le; simp; omega)
  have hOwn : ∀ m X, Own H0 N (.ref b v 2 0 rows.length) (rows.set i (r.1, r.2.set f m)) ((H ++ X).set w.1 { kw with els := kw.els.set f [.int .i64 m] }) := fun m X => by
    have hp := (hO.app X).pre
    have hle := (hO.app X).le
    obtain ⟨k1, k2, _⟩ := hL.vals i r w hr hw
    refine ⟨?_, by rw [List.length_set]; exact hle, .inr ⟨b, v, vb, by rw [List.length_set], hset m X⟩⟩
    rw [List.take_set_of_le (by omega)]
    exact hp
  suffices h : ∃ H1, evFn (evC cprog) itLim c56 [.agg [.int .i64 F, .ref b v 2 0 rows.length], .agg (rFld c)] H = some (.str (doOne F rows c).1, H1) ∧ Own H0 N (.ref b v 2 0 rows.length) (doOne F rows c).2 H1 ∧ Keep N H H1 by
    obtain ⟨H1, h3, h4, h5⟩ := h
    rw [h3, calK_f]
    rcases gc_or H (.str (doOne F rows c).1) H1 with h | ⟨h, ht⟩
    · exact ⟨H1, by rw [h], h4, h5⟩
    · exact ⟨H, by rw [h], h4.trunc hO.le.2 ht, .refl _ _⟩
  rw [hd]
  have hst : ∀ (m : Int) (X : Heap), holds c n = true → next c n = m → isAmount m = true →
      ∃ H1, some (AV.str sOk, (H ++ X).set w.1 { kw with els := kw.els.set f [.int .i64 m] }) = some (AV.str (if holds c n = false then (sFV, rows) else if isAmount (next c n) = false then (sFO, rows) else (sOk, rows.set i (r.1, r.2.set f (next c n)))).1, H1) ∧
        Own H0 N (.ref b v 2 0 rows.length) (if holds c n = false then (sFV, rows) else if isAmount (next c n) = false then (sFO, rows) else (sOk, rows.set i (r.1, r.2.set f (next c n)))).2 H1 ∧ Keep N H H1 := fun m X g1 g2 g3 => by
    subst g2
    simp only [g1, g3, Bool.true_eq_false, if_false]
    exact ⟨_, rfl, hOwn _ X, (Keep.app N H X).set (hL.vals i r w hr hw).2.1 _⟩
  have hio := isCall_op hcall
  have hf0 : ¬ (f : Int) < 0 := by omega
  have hfF : ¬ F ≤ (f : Int) := fun h => h2 (.inr (.inl h))
  simp only [c56, rFld, h73, h54, hidx, hf, h1, hf0, hfF, hcall, hil, hkbx, hkwx, hre, hne, hfl, f50, hadd, hsub, Int.toNat_natCast, AV.scal, fn_eq, evR, Nat.reduceAdd, Nat.reduceLT, Nat.reduceLeDiff, reduceIte, Nat.reduceEqDiff, reduceCtorEq, argEnv, eq_self, if_true, if_false]
  repeat' (first | (rw [guardK_cases]; split <;> simp only [c56, rFld, h73, h54, hidx, hf, h1, hf0, hfF, hcall, hil, hkbx, hkwx, hre, hne, hfl, f50, hadd, hsub, Int.toNat_natCast, AV.scal, evR, Nat.reduceAdd, Nat.reduceLT, Nat.reduceLeDiff, reduceIte, Nat.reduceEqDiff, reduceCtorEq, argEnv, eq_self, if_true, if_false, *]) | (rw [condK_bool]; split <;> simp only [c56, rFld, h73, h54, hidx, hf, h1, hf0, hfF, hcall, hil, hkbx, hkwx, hre, hne, hfl, f50, hadd, hsub, Int.toNat_natCast, AV.scal, evR, Nat.reduceAdd, Nat.reduceLT, Nat.reduceLeDiff, reduceIte, Nat.reduceEqDiff, reduceCtorEq, argEnv, eq_self, if_true, if_false, *]))
  all_goals first
    | (have hh : holds c n = false := by (simp_all [holds, sVe, sVl, sVg]; done)
       simp only [hh, if_true]; exact ⟨_, rfl, hO.app _, .app _ _ _⟩)
    | (have hh : holds c n = true := by (simp_all [holds, sVe, sVl, sVg]; done)
       have hm : isAmount (next c n) = false := by (simp_all [next, sVe, sVl, sVg, sPl, sMi, sEq]; done)
       simp only [hh, hm, if_true, if_false, Bool.true_eq_false]; exact ⟨_, rfl, hO.app _, .app _ _ _⟩)
    | exact hst _ _ (by simp_all [holds, sVe, sVl, sVg]; done) (by simp_all [next, sVe, sVl, sVg, sPl, sMi, sEq]; done) (by simp_all; done)
    | (exfalso; clear hst hOwn hset h73 h54; simp_all [sVe, sVl, sVg, sPl, sMi, sEq]; done)
end Go.Proofs.Ytehcdcnghcbimaa.Code

/- fast: calls one after the other. -/
set_option linter.unusedSimpArgs false
set_option linter.unusedVariables false
namespace Go.Proofs.Ytehcdcnghcbimaa.Code
open Go.Proofs.Ytehcdcnghcbimaa.Ev

/-- a row has F values, and these are amounts -/
def GoodRows (F : Int) (rows : List Row) : Prop := ∀ r ∈ rows, (r.2.length : Int) = F ∧ ∀ n ∈ r.2, isAmount n = true
theorem GoodRows.doOne {F : Int} {rows : List Row} (h : GoodRows F rows) (c : Fld) : GoodRows F (doOne F rows c).2 := by
  unfold Code.doOne
  split
  · exact h
  · split
    · exact h
    · split
      · exact h
      · split
        · exact h
        · rename_i hA
          simp only [putAt]
          split
          · rename_i r hr
            intro r' hr'
            rcases List.mem_or_eq_of_mem_set hr' with h1 | rfl
            · exact h r' h1
            · obtain ⟨k1, k2⟩ := h r (List.mem_of_getElem? hr)
              refine ⟨by simpa using k1, fun n hn => ?_⟩
              rcases List.mem_or_eq_of_mem_set hn with h1 | rfl
              · exact k2 n h1
              · simpa using hA
          · exact h
theorem length_doOne (F : Int) (rows : List Row) (c : Fld) : (doOne F rows c).2.length = rows.length := by
  unfold doOne
  split
  · rfl
  · split
    · rfl
    · split
      · rfl
      · split
        · rfl
        · simp only [putAt]
          split
          · simp
          · rfl
def bad (F : Int) (rows : List Row) (c : Fld) : Bool := !decide ((doOne F rows c).1 = sOk)
def after (F : Int) (rows : List Row) (c : Fld) : List Row := (doOne F rows c).2
/-- a unit: the index of the first call that does not hold, or -1, and the rows then -/
def runUnit (F : Int) (rows : List Row) (l : List Fld) : Int × List Row := runIdx (bad F) (after F) rows l 0

structure RunInv (H0 : Heap) (N : Nat) (F : Int) (rv : AV) (m : Nat) (rows : List Row) (H : Heap) : Prop where
  own : Own H0 N rv rows H
  good : GoodRows F rows
  len : rows.length = m
theorem f70 {H0 : Heap} {N bt : Nat} {F : Int} {rv : AV} {m : Nat} (hm : m < 9223372036854775807) (hbt : H0[bt]? = some ⟨0, true, 24, 2, [[.int .i64 F, rv]]⟩) (rows : List Row) (H : Heap) (hI : RunInv H0 N F rv m rows H) (c : Fld) :
    ∃ H', cal (evC cprog) false 70 [.agg (rFld c), .ptr bt 0 2 0 0] H = some (.bool (bad F rows c), H') ∧ RunInv H0 N F rv m (after F rows c) H' := by
  have hb : ∀ X, (H ++ X)[bt]? = some ⟨0, true, 24, 2, [[.int .i64 F, rv]]⟩ := fun X => by
    have h1 := (List.getElem?_eq_some_iff.1 hbt).1
    rw [← hI.own.pre, List.getElem?_take_of_lt h1] at hbt
    rw [List.getElem?_append_left (List.getElem?_eq_some_iff.1 hbt).1]; exact hbt
  have hl : rows.length < 9223372036854775807 := by have := hI.len; omega
  obtain ⟨H1, h1, h2, _⟩ := f56 (hI.own.app [⟨0, true, 37, 4, [rFld c]⟩]) hl (fun r hr => (hI.good r hr).1) (fun r hr => (hI.good r hr).2) c
  rw [cal_of at70]
  simp only [rFld] at h1
  suffices h : ∃ H1, evFn (evC cprog) itLim c70 [.agg (rFld c), .ptr bt 0 2 0 0] H = some (.bool (bad F rows c), H1) ∧ RunInv H0 N F rv m (after F rows c) H1 by
    obtain ⟨H1, h3, h4⟩ := h
    rw [h3, calK_f]
    rcases gc_or H (.bool (bad F rows c)) H1 with h | ⟨h, ht⟩
    · exact ⟨H1, by rw [h], h4⟩
    · exact ⟨H, by rw [h], h4.own.trunc hI.own.le.2 ht, h4.good, h4.len⟩
  simp only [c70, rFld, hb, h1, fn_eq, evR, Nat.reduceAdd, Nat.reduceLT, Nat.reduceLeDiff, reduceIte, Nat.reduceEqDiff, reduceCtorEq, argEnv, eq_self, if_true, if_false]
  repeat' (first | (rw [guardK_cases]; split <;> simp only [c70, rFld, hb, h1, evR, Nat.reduceAdd, Nat.reduceLT, Nat.reduceLeDiff, reduceIte, Nat.reduceEqDiff, reduceCtorEq, argEnv, eq_self, if_true, if_false, *]) | (rw [condK_bool]; split <;> simp only [c70, rFld, hb, h1, evR, Nat.reduceAdd, Nat.reduceLT, Nat.reduceLeDiff, reduceIte, Nat.reduceEqDiff, reduceCtorEq, argEnv, eq_self, if_true, if_false, *]))
  exact ⟨H1, rfl, h2, hI.good.doOne c, by rw [after, length_doOne]; exact hI.len⟩
theorem f69 {H0 : Heap} {N bt : Nat} {F : Int} {rv : AV} (rows : List Row) (hm : rows.length < 9223372036854775807) (hbt : H0[bt]? = some ⟨0, true, 24, 2, [[.int .i64 F, rv]]⟩) (H : Heap) (hO : Own H0 N rv rows H) (hG : GoodRows F rows)
    (l : List Fld) (hl : l.length < 9223372036854775807) :
    ∃ H', cal (evC cprog) false 69 [eUnit l, .fn 70 [.ptr bt 0 2 0 0]] H = some (.int .i64 (runUnit F rows l).1, H') ∧ RunInv H0 N F rv rows.length (runUnit F rows l).2 H' :=
  indexFunc_st at69 rFld (fun c => .agg (rFld c)) lFld 70 [.ptr bt 0 2 0 0] (bad F) (after F) (RunInv H0 N F rv rows.length) (eUnit l) l (fun _ H _ => sUnit H l) hl
    (fun c _ rows H hI => f70 hm hbt rows H hI c) (fun s s' H H' h h' ht => ⟨h'.own.trunc h.own.le.2 ht, h'.good, h'.len⟩) rows H ⟨hO, hG, rfl⟩
end Go.Proofs.Ytehcdcnghcbimaa.Code

/- fast: a copy of a table. -/
set_option linter.unusedSimpArgs false
set_option linter.unusedVariables false
namespace Go.Proofs.Ytehcdcnghcbimaa.Code
open Go.Proofs.Ytehcdcnghcbimaa.Ev

def bRow (r : Row) : Blk := ⟨0, true, 76, 2, [rRow r]⟩
def bVals (l : List Int) : Blk := ⟨0, true, 3, 1, l.map fun n => [.int .i64 n]⟩
def tl58 (rows : List Row) (i : Nat) : Heap := (rows.take i).flatMap fun r => [bRow r, bVals r.2]
def els58 (base : Nat) (rows : List Row) (i : Nat) : List (List AV) := rows.mapIdx fun j r => if j < i then [.str r.1, .ref (base + (2 * j + 4)) 0 1 0 r.2.length] else rRow r
def hp58 (F : Int) (rows : List Row) (H : Heap) (i : Nat) : Heap :=
  H ++ (⟨0, true, 24, 2, [[.int .i64 F, .ref (H.length + 2) 0 2 0 rows.length]]⟩ :: ⟨0, true, 24, 2, [[.int .i64 0, .nils]]⟩ :: ⟨0, true, 76, 2, els58 H.length rows i⟩ :: tl58 rows i)
theorem tl58_len (rows : List Row) : ∀ i, i ≤ rows.length → (tl58 rows i).length = 2 * i := by
  intro i
  induction i with
  | zero => intro _; simp [tl58]
  | succ i ih =>
    intro h
    have := ih (by omega)
    unfold tl58 at *
    rw [List.take_add_one, List.flatMap_append, List.length_append, this]
    have : rows[i]? = some rows[i] := List.getElem?_eq_getElem (by omega)
    rw [this]
    simp
    omega
theorem tl58_succ (rows : List Row) {i : Nat} {r : Row} (hr : rows[i]? = some r) : tl58 rows (i + 1) = tl58 rows i ++ [bRow r, bVals r.2] := by
  unfold tl58
  rw [List.take_add_one, List.flatMap_append, hr]
  simp
theorem els58_at (base : Nat) (rows : List Row) {i j : Nat} {r : Row} (hr : rows[j]? = some r) : (els58 base rows i)[j]? = some (if j < i then [.str r.1, .ref (base + (2 * j + 4)) 0 1 0 r.2.length] else rRow r) := by
  unfold els58
  rw [List.getElem?_mapIdx, hr]; rfl
theorem els58_succ (base : Nat) (rows : List Row) {i : Nat} {r : Row} (hr : rows[i]? = some r) : (els58 base rows i).set i [.str r.1, .ref (base + (2 * i + 4)) 0 1 0 r.2.length] = els58 base rows (i + 1) := by
  have hi := (List.getElem?_eq_some_iff.1 hr).1
  apply List.ext_getElem?
  intro j
  by_cases hj : j < rows.length
  · obtain ⟨r', hr'⟩ : ∃ r', rows[j]? = some r' := ⟨_, List.getElem?_eq_getElem hj⟩
    rw [els58_at base rows hr']
    by_cases hij : i = j
    · subst hij
      rw [hr] at hr'; cases hr'
      rw [List.getElem?_set_self (by simpa [els58] using hi), if_pos (by omega)]
    · rw [List.getElem?_set_ne hij, els58_at base rows hr']
      by_cases h : j < i
      · rw [if_pos h, if_pos (by omega)]
      · rw [if_neg h, if_neg (by omega)]
  · rw [List.getElem?_eq_none (by simp [els58]; omega), List.getElem?_eq_none (by simp [els58]; omega)]
theorem els58_zero (base : Nat) (rows : List Row) : els58 base rows 0 = rows.map rRow := by
  apply List.ext_getElem?
  intro j
  by_cases hj : j < rows.length
  · obtain ⟨r', hr'⟩ : ∃ r', rows[j]? = some r' := ⟨_, List.getElem?_eq_getElem hj⟩
    rw [els58_at base rows hr', if_neg (by omega), List.getElem?_map, hr']; rfl
  · rw [List.getElem?_eq_none (by simp [els58]; omega), List.getElem?_eq_none (by simp; omega)]
theorem f76 (l : List Int) (hne : l ≠ []) (hl : l.length ≤ 1000000) (H : Heap) : cal (evC cprog) false 76 [eInts l] H = some (.ref H.length 0 1 0 l.length, H ++ [bVals l]) := by
  cases l with
  | nil => exact absurd rfl hne
  | cons n l =>
    have := clone_lst (cprog := cprog) (f := 76) (ty := 3) (sz := 1) (bytes := 8) at76 [.int .i64 n] (l.map fun n => [.int .i64 n]) H rfl (by simp [reach] at *; omega)
    simpa [eInts, bVals] using this
theorem f75 (l : List Row) (hne : l ≠ []) (hl : l.length ≤ 1000000) (H : Heap) : cal (evC cprog) false 75 [.lst (l.map rRow)] H = some (.ref H.length 0 2 0 l.length, H ++ [⟨0, true, 76, 2, l.map rRow⟩]) := by
  cases l with
  | nil => exact absurd rfl hne
  | cons n l =>
    have := clone_lst (cprog := cprog) (f := 75) (ty := 76) (sz := 2) (bytes := 40) at75 (rRow n) (l.map rRow) H rfl (by simp [reach] at *; omega)
    simpa using this
theorem f58_loop (F : Int) (rows : List Row) (hl : rows.length ≤ 1000000) (hv : ∀ r ∈ rows, r.2 ≠ [] ∧ r.2.length ≤ 1000000) (H : Heap) (st : St) (z : Option (CX × St))
    (hE : keepEnv st.1 [1, 2, 10, 11, 12] = [(1, .ptr H.length 0 2 0 0), (2, .ptr (H.length + 1) 0 2 0 0), (10, .ref (H.length + 2) 0 2 0 rows.length), (11, .int .i64 (rows.length : Int)), (12, .int .i64 0)])
    (hH : st.2 = hp58 F rows H 0) (hz : itLim (evCode (evC cprog) itLim c58_l0) st = z) :
    ∃ T, z = some (.exit 0, T, hp58 F rows H rows.length) ∧ keepEnv T [1, 2] = [(1, .ptr H.length 0 2 0 0), (2, .ptr (H.length + 1) 0 2 0 0)] := by
  have L := loop_rule (σ := Nat) (m := [1, 2, 10, 11, 12]) (env := fun i => [(1, .ptr H.length 0 2 0 0), (2, .ptr (H.length + 1) 0 2 0 0), (10, .ref (H.length + 2) 0 2 0 rows.length), (11, .int .i64 (rows.length : Int)), (12, .int .i64 (i : Int))])
    (hp := hp58 F rows H) (P := fun _ r => ∃ T, r = (.exit 0, T, hp58 F rows H rows.length) ∧ keepEnv T [1, 2] = [(1, .ptr H.length 0 2 0 0), (2, .ptr (H.length + 1) 0 2 0 0)])
    (mu := fun i => rows.length - i) (I := fun i => i ≤ rows.length) (evCode (evC cprog) itLim c58_l0) ?_ 0 st (Nat.zero_le _) hE hH z hz
  · obtain ⟨r, rfl, T, rfl, hT⟩ := L
    exact ⟨T, rfl, hT⟩
  · intro i hi E hE
    by_cases hlt : i < rows.length
    · obtain ⟨r, hr⟩ : ∃ r, rows[i]? = some r := ⟨_, List.getElem?_eq_getElem hlt⟩
      have hm := List.mem_of_getElem? hr
      have hi1 : (i : Int) < (rows.length : Int) := by omega
      have hel := els58_at H.length rows (i := i) hr
      rw [if_neg (by omega)] at hel
      have h76 := f76 r.2 (hv r hm).1 (hv r hm).2
      have htl := tl58_len rows i hi
      have hs := els58_succ H.length rows hr
      rw [show hp58 F rows H i = H ++ (⟨0, true, 24, 2, [[.int .i64 F, .ref (H.length + 2) 0 2 0 rows.length]]⟩ :: ⟨0, true, 24, 2, [[.int .i64 0, .nils]]⟩ :: ⟨0, true, 76, 2, els58 H.length rows i⟩ :: tl58 rows i) from rfl]
      generalize hTl : tl58 rows i = Tl at *
      simp only [rRow, bVals] at hel h76
      simp only [c58_l0, hE, hi1, hlt, hel, h76, evW, wrapS hlt (by omega), fn_eq, evR, Nat.reduceAdd, Nat.reduceLT, Nat.reduceLeDiff, reduceIte, Nat.reduceEqDiff, reduceCtorEq, argEnv, eq_self, if_true, if_false]
      repeat' (first | (rw [guardK_cases]; split <;> simp only [c58_l0, hE, hi1, hlt, hel, h76, evW, wrapS hlt (by omega), evR, Nat.reduceAdd, Nat.reduceLT, Nat.reduceLeDiff, reduceIte, Nat.reduceEqDiff, reduceCtorEq, argEnv, eq_self, if_true, if_false, *]) | (rw [condK_bool]; split <;> simp only [c58_l0, hE, hi1, hlt, hel, h76, evW, wrapS hlt (by omega), evR, Nat.reduceAdd, Nat.reduceLT, Nat.reduceLeDiff, reduceIte, Nat.reduceEqDiff, reduceCtorEq, argEnv, eq_self, if_true, if_false, *]) | (rw [guardD_cases]; split <;> simp only [c58_l0, hE, hi1, hlt, hel, h76, evW, wrapS hlt (by omega), evR, Nat.reduceAdd, Nat.reduceLT, Nat.reduceLeDiff, reduceIte, Nat.reduceEqDiff, reduceCtorEq, argEnv, eq_self, if_true, if_false, *]))
      exact q_next (i + 1) (by rfl) (by simp only [hp58, tl58_succ rows hr, hTl, ← hs, htl, bRow, bVals, rRow]) (by omega) (by omega) (fun r h => h)
    · have : i = rows.length := by omega
      subst this
      simp only [c58_l0, hE, Int.lt_irrefl, fn_eq, evR, Nat.reduceAdd, Nat.reduceLT, Nat.reduceLeDiff, reduceIte, Nat.reduceEqDiff, reduceCtorEq, argEnv, eq_self, if_true, if_false]
      repeat' (first | (rw [guardK_cases]; split <;> simp only [c58_l0, hE, Int.lt_irrefl, evR, Nat.reduceAdd, Nat.reduceLT, Nat.reduceLeDiff, reduceIte, Nat.reduceEqDiff, reduceCtorEq, argEnv, eq_self, if_true, if_false, *]) | (rw [condK_bool]; split <;> simp only [c58_l0, hE, Int.lt_irrefl, evR, Nat.reduceAdd, Nat.reduceLT, Nat.reduceLeDiff, reduceIte, Nat.reduceEqDiff, reduceCtorEq, argEnv, eq_self, if_true, if_false, *]))
      exact q_exit ⟨_, rfl, by rfl⟩
theorem tl58_at (rows : List Row) {j : Nat} {r : Row} (hr : rows[j]? = some r) : ∀ i, i ≤ rows.length → j < i → (tl58 rows i)[2 * j + 1]? = some (bVals r.2) := by
  intro i
  induction i with
  | zero => intro _ h; omega
  | succ i ih =>
    intro hi hj
    obtain ⟨r', hr'⟩ : ∃ r', rows[i]? = some r' := ⟨_, List.getElem?_eq_getElem (by omega)⟩
    rw [tl58_succ rows hr']
    have hl := tl58_len rows i (by omega)
    by_cases h : j < i
    · rw [List.getElem?_append_left (by omega)]
      exact ih (by omega) h
    · have : j = i := by omega
      subst this
      rw [hr] at hr'; cases hr'
      rw [List.getElem?_append_right (by omega), hl]
      have : 2 * j + 1 - 2 * j = 1 := by omega
      rw [this]; rfl
theorem own58 (F : Int) (rows : List Row) (hne : rows ≠ []) (H : Heap) (B1 B2 : Blk) :
    Own H (H.length + (2 * rows.length + 3)) (.ref (H.length + 2) 0 2 0 rows.length) rows (H ++ (B1 :: B2 :: ⟨0, true, 76, 2, els58 H.length rows rows.length⟩ :: tl58 rows rows.length)) := by
  have htl := tl58_len rows rows.length (Nat.le_refl _)
  have hvb : ∀ (i : Nat) (w : Nat × Nat), ((List.range rows.length).map fun j => (H.length + (2 * j + 4), 0))[i]? = some w → w = (H.length + (2 * i + 4), 0) := fun i w hw => by
    rw [List.getElem?_map] at hw
    cases h : (List.range rows.length)[i]? with
    | none => simp [h] at hw
    | some j =>
      have := (List.getElem?_eq_some_iff.1 h).2
      simp at this
      subst this
      simp [h] at hw
      exact hw.symm
  refine ⟨by simp, ⟨by omega, by simp [htl]⟩, .inr ⟨_, _, (List.range rows.length).map fun j => (H.length + (2 * j + 4), 0), rfl, by simp, ⟨by omega, by omega, ⟨0, true, 76, 2, els58 H.length rows rows.length⟩, by simp only [curBlk_eq, at_app, List.getElem?_cons_succ, List.getElem?_cons_zero, blkK_some, and_self, if_true], fun i r w hr hw => ?_⟩, fun i r w hr hw => ?_, fun i j w u hw hu hij => ?_⟩⟩
  · rw [hvb i w hw]
    rw [els58_at H.length rows hr, if_pos (List.getElem?_eq_some_iff.1 hr).1]
  · rw [hvb i w hw]
    have hi := (List.getElem?_eq_some_iff.1 hr).1
    refine ⟨by simp only; omega, by simp only; omega, by simp only; omega, bVals r.2, ?_, fun j n hj => by simp [bVals, hj]⟩
    simp only [curBlk_eq, at_app]
    rw [show 2 * i + 4 = 2 * i + 1 + 1 + 1 + 1 from rfl]
    simp only [List.getElem?_cons_succ]
    rw [tl58_at rows hr rows.length (Nat.le_refl _) hi]
    rfl
  · rw [hvb i w hw, hvb j u hu]
    simp only
    omega
theorem f58 (F : Int) (rows : List Row) (hne : rows ≠ []) (hl : rows.length ≤ 1000000) (hv : ∀ r ∈ rows, r.2 ≠ [] ∧ r.2.length ≤ 1000000) (H : Heap) :
    ∃ G N, cal (evC cprog) false 58 [.agg [.int .i64 F, .lst (rows.map rRow)]] H = some (.agg [.int .i64 F, .ref (H.length + 2) 0 2 0 rows.length], H ++ G) ∧ Own H N (.ref (H.length + 2) 0 2 0 rows.length) rows (H ++ G) := by
  rw [cal_of at58]
  have h75 := f75 rows hne hl
  simp only [c58, h75, fn_eq, evR, Nat.reduceAdd, Nat.reduceLT, Nat.reduceLeDiff, reduceIte, Nat.reduceEqDiff, reduceCtorEq, argEnv, eq_self, if_true, if_false]
  repeat' (first | (rw [guardK_cases]; split <;> simp only [c58, h75, evR, Nat.reduceAdd, Nat.reduceLT, Nat.reduceLeDiff, reduceIte, Nat.reduceEqDiff, reduceCtorEq, argEnv, eq_self, if_true, if_false, *]) | (rw [condK_bool]; split <;> simp only [c58, h75, evR, Nat.reduceAdd, Nat.reduceLT, Nat.reduceLeDiff, reduceIte, Nat.reduceEqDiff, reduceCtorEq, argEnv, eq_self, if_true, if_false, *]))
  generalize hz : itLim _ _ = z
  obtain ⟨T, rfl, hT⟩ := f58_loop F rows hl hv H _ z (by rfl) (by simp only [hp58, els58_zero, tl58, List.take_zero, List.flatMap_nil, evR, Nat.reduceAdd, Nat.reduceLT, Nat.reduceLeDiff, reduceIte, Nat.reduceEqDiff, reduceCtorEq, argEnv, eq_self, if_true, if_false]) hz
  simp only [hp58]
  simp only [hT, fn_eq, evR, Nat.reduceAdd, Nat.reduceLT, Nat.reduceLeDiff, reduceIte, Nat.reduceEqDiff, reduceCtorEq, argEnv, eq_self, if_true, if_false]
  repeat' (first | (rw [guardK_cases]; split <;> simp only [hT, evR, Nat.reduceAdd, Nat.reduceLT, Nat.reduceLeDiff, reduceIte, Nat.reduceEqDiff, reduceCtorEq, argEnv, eq_self, if_true, if_false, *]) | (rw [condK_bool]; split <;> simp only [hT, evR, Nat.reduceAdd, Nat.reduceLT, Nat.reduceLeDiff, reduceIte, Nat.reduceEqDiff, reduceCtorEq, argEnv, eq_self, if_true, if_false, *]))
  exact ⟨_, _, rfl, own58 F rows hne H _ _⟩
theorem f58_nil (F : Int) (H : Heap) : ∃ G N, cal (evC cprog) false 58 [.agg [.int .i64 F, .lst []]] H = some (.agg [.int .i64 F, .nil0], H ++ G) ∧ Own H N .nil0 [] (H ++ G) := by
  rw [cal_of at58]
  have h75 := clone_nil (cprog := cprog) (f := 75) (ty := 76) (sz := 2) (bytes := 40) at75
  simp only [c58, h75, fn_eq, evR, Nat.reduceAdd, Nat.reduceLT, Nat.reduceLeDiff, reduceIte, Nat.reduceEqDiff, reduceCtorEq, argEnv, eq_self, if_true, if_false]
  repeat' (first | (rw [guardK_cases]; split <;> simp only [c58, h75, evR, Nat.reduceAdd, Nat.reduceLT, Nat.reduceLeDiff, reduceIte, Nat.reduceEqDiff, reduceCtorEq, argEnv, eq_self, if_true, if_false, *]) | (rw [condK_bool]; split <;> simp only [c58, h75, evR, Nat.reduceAdd, Nat.reduceLT, Nat.reduceLeDiff, reduceIte, Nat.reduceEqDiff, reduceCtorEq, argEnv, eq_self, if_true, if_false, *]))
  rw [itLim_eq]
  simp only [c58_l0, Int.lt_irrefl, fn_eq, evR, Nat.reduceAdd, Nat.reduceLT, Nat.reduceLeDiff, reduceIte, Nat.reduceEqDiff, reduceCtorEq, argEnv, eq_self, if_true, if_false]
  repeat' (first | (rw [guardK_cases]; split <;> simp only [c58_l0, Int.lt_irrefl, evR, Nat.reduceAdd, Nat.reduceLT, Nat.reduceLeDiff, reduceIte, Nat.reduceEqDiff, reduceCtorEq, argEnv, eq_self, if_true, if_false, *]) | (rw [condK_bool]; split <;> simp only [c58_l0, Int.lt_irrefl, evR, Nat.reduceAdd, Nat.reduceLT, Nat.reduceLeDiff, reduceIte, Nat.reduceEqDiff, reduceCtorEq, argEnv, eq_self, if_true, if_false, *]))
  have : noRef0 .nil0 = true := rfl
  refine ⟨[], H.length, by simp, by simp, ⟨by simp, by simp⟩, .inl ⟨rfl, .inl rfl⟩⟩
theorem f58' (F : Int) (rows : List Row) (hl : rows.length ≤ 1000000) (hv : ∀ r ∈ rows, r.2 ≠ [] ∧ r.2.length ≤ 1000000) (H : Heap) :
    ∃ rv G N, cal (evC cprog) false 58 [.agg [.int .i64 F, .lst (rows.map rRow)]] H = some (.agg [.int .i64 F, rv], H ++ G) ∧ Own H N rv rows (H ++ G) := by
  cases rows with
  | nil => obtain ⟨G, N, h⟩ := f58_nil F H; exact ⟨_, G, N, h⟩
  | cons r l => obtain ⟨G, N, h⟩ := f58 F (r :: l) (by simp) hl hv H; exact ⟨_, G, N, h⟩
end Go.Proofs.Ytehcdcnghcbimaa.Code

/- fast: a unit on a copy. -/
set_option linter.unusedSimpArgs false
set_option linter.unusedVariables false
namespace Go.Proofs.Ytehcdcnghcbimaa.Code
open Go.Proofs.Ytehcdcnghcbimaa.Ev

theorem Own.split {H0 : Heap} {N : Nat} {rv : AV} {rows : List Row} {H : Heap} (h : Own H0 N rv rows H) : ∃ G, H = H0 ++ G := ⟨H.drop H0.length, by
  have h1 := List.take_append_drop H0.length H
  rw [h.pre] at h1
  exact h1.symm⟩
theorem Own.weaken {H K : Heap} {N : Nat} {rv : AV} {rows : List Row} {Hc : Heap} (h : Own (H ++ K) N rv rows Hc) : Own H N rv rows Hc := by
  obtain ⟨G, rfl⟩ := h.split
  have hle := h.le
  refine ⟨by simp, ⟨by simp at hle; omega, hle.2⟩, ?_⟩
  rcases h.tab with h1 | ⟨b, v, vb, h1, h2⟩
  · exact .inl h1
  · refine .inr ⟨b, v, vb, h1, h2.len, ⟨by have := h2.blk.1; simp at this; omega, h2.blk.2⟩, fun i r w hr hw => ?_, h2.inj⟩
    obtain ⟨k1, k2⟩ := h2.vals i r w hr hw
    exact ⟨by simp at k1; omega, k2⟩
theorem f44 (F : Int) (rows : List Row) (hl : rows.length ≤ 1000000) (hv : ∀ r ∈ rows, r.2 ≠ [] ∧ r.2.length ≤ 1000000) (hG : GoodRows F rows) (l : List Fld) (hu : l.length < 9223372036854775807) (H : Heap) :
    ∃ rv N H', cal (evC cprog) false 44 [.agg [.int .i64 F, .lst (rows.map rRow)], eUnit l] H = some (.tup [.agg [.int .i64 F, rv], .int .i64 (runUnit F rows l).1], H') ∧ Own H N rv (runUnit F rows l).2 H' ∧ GoodRows F (runUnit F rows l).2 := by
  obtain ⟨rv, G, N, h58, hO⟩ := f58' F rows hl hv (H ++ [⟨0, true, 24, 2, [[.int .i64 F, .lst (rows.map rRow)]]⟩, ⟨0, true, 24, 2, [[.int .i64 0, .nils]]⟩])
  have hO' := hO.swap (H1' := H ++ [⟨0, true, 24, 2, [[.int .i64 F, rv]]⟩, ⟨0, true, 24, 2, [[.int .i64 0, .nils]]⟩]) (by simp)
  obtain ⟨H', h69, hI⟩ := f69 (bt := H.length) rows (by omega) (by simp) _ hO' hG l hu
  obtain ⟨G', rfl⟩ := hI.own.split
  rw [cal_of at44]
  simp only [List.append_assoc, List.cons_append, List.nil_append] at h58 h69
  simp only [c44, h58, h69, AV.scal, evW, fn_eq, evR, Nat.reduceAdd, Nat.reduceLT, Nat.reduceLeDiff, reduceIte, Nat.reduceEqDiff, reduceCtorEq, argEnv, eq_self, if_true, if_false]
  repeat' (first | (rw [guardK_cases]; split <;> simp only [c44, h58, h69, AV.scal, evW, evR, Nat.reduceAdd, Nat.reduceLT, Nat.reduceLeDiff, reduceIte, Nat.reduceEqDiff, reduceCtorEq, argEnv, eq_self, if_true, if_false, *]) | (rw [condK_bool]; split <;> simp only [c44, h58, h69, AV.scal, evW, evR, Nat.reduceAdd, Nat.reduceLT, Nat.reduceLeDiff, reduceIte, Nat.reduceEqDiff, reduceCtorEq, argEnv, eq_self, if_true, if_false, *]) | (rw [guardD_cases]; split <;> simp only [c44, h58, h69, AV.scal, evW, evR, Nat.reduceAdd, Nat.reduceLT, Nat.reduceLeDiff, reduceIte, Nat.reduceEqDiff, reduceCtorEq, argEnv, eq_self, if_true, if_false, *]))
  rcases hI.own.tab with ⟨h1, rfl | rfl⟩ | ⟨b, v, vb, rfl, h2⟩
  · refine ⟨.nil0, H.length, _, rfl, ?_, hI.good⟩
    simp only [evR, Nat.reduceAdd, Nat.reduceLT, Nat.reduceLeDiff, reduceIte, Nat.reduceEqDiff, reduceCtorEq, argEnv, eq_self, if_true, if_false, h1]
    exact ⟨by simp, by simp, .inl ⟨rfl, .inl rfl⟩⟩
  · refine ⟨.nils, H.length, _, rfl, ?_, hI.good⟩
    simp only [evR, Nat.reduceAdd, Nat.reduceLT, Nat.reduceLeDiff, reduceIte, Nat.reduceEqDiff, reduceCtorEq, argEnv, eq_self, if_true, if_false, h1]
    exact ⟨by simp, by simp, .inl ⟨rfl, .inr rfl⟩⟩
  · refine ⟨_, N, _, rfl, ?_, hI.good⟩
    have h := hI.own.swap (H1' := H ++ [⟨0, true, 24, 2, [[.int .i64 F, .ref b v 2 0 (runUnit F rows l).2.length]]⟩, ⟨0, true, 24, 2, [[.int .i64 F, .ref b v 2 0 (runUnit F rows l).2.length]]⟩]) (by simp)
    simpa [noRef0] using h.weaken
end Go.Proofs.Ytehcdcnghcbimaa.Code

/- fast: Stands, Sync and Call of the program. -/
set_option linter.unusedSimpArgs false
set_option linter.unusedVariables false
namespace Go.Proofs.Ytehcdcnghcbimaa.Code
open Go.Proofs.Ytehcdcnghcbimaa.Ev

theorem cells_unit (l : List Fld) : (eUnit l).cells = [eUnit l] := rfl
theorem isTup_unit (l : List Fld) : (eUnit l).isTup = false := rfl
theorem f43' (F : Int) (rows : List Row) (hl : rows.length < 9223372036854775807) (hvl : ∀ r ∈ rows, r.2.length < 9223372036854775807) (l : List Fld) (hu : l.length < 9223372036854775807) (H K : Heap) :
    cal (evC cprog) false 43 [.agg [.int .i64 F, .lst (rows.map rRow)], .ref (H.length + K.length) 0 1 0 1] (H ++ (K ++ [⟨0, true, 25, 1, [[eUnit l]]⟩])) = some (.int .i64 (asked (F, rows) [l]), H ++ (K ++ [⟨0, true, 25, 1, [[eUnit l]]⟩])) :=
  f43 F rows hl hvl _ _ (.lst _ rows) [l] _ (SlAt.ref (b := H.length + K.length) (v := 0) (off := 0) (rows := [[eUnit l]]) (k := ⟨0, true, 25, 1, [[eUnit l]]⟩) (by simp only [curBlk_eq, at_app, at_app0]; rfl) fun i row hi => by
    cases i with
    | zero => simp at hi; subst hi; exact ⟨rfl, rfl⟩
    | succ i => simp at hi) (by simp) (by simpa using hu)
theorem asked_good {F : Int} {rows : List Row} {us : List (List Fld)} (h : asked (F, rows) us = 0) : GoodRows F rows ∧ (∀ r ∈ rows, r.2 ≠ [] ∧ r.2.length ≤ 1000000) ∧ rows.length ≤ 1000000 := by
  have hv : valid (F, rows) = true := by
    cases hv : valid (F, rows) with
    | true => rfl
    | false => simp [asked, hv] at h
  simp only [valid, Bool.and_eq_true, decide_eq_true_eq] at hv
  obtain ⟨⟨⟨h1, h2⟩, h3⟩, h4⟩ := hv
  have hr : ∀ r ∈ rows, (r.2.length : Int) = F ∧ r.2.all isAmount = true := fun r hr => by
    obtain ⟨i, hi⟩ := List.getElem?_of_mem hr
    have := tell_true.1 h4 i r hi
    simp only [rowOk, Bool.and_eq_true, decide_eq_true_eq] at this
    exact ⟨this.1.2, this.2⟩
  exact ⟨fun r h => ⟨(hr r h).1, List.all_eq_true.1 (hr r h).2⟩, fun r h => ⟨fun e => by have := (hr r h).1; rw [e] at this; simp at this; omega, by have := (hr r h).1; omega⟩, by omega⟩
/-- what Stands answers -/
noncomputable def stands (F : Int) (rows : List Row) (l : List Fld) : Int × Int := if asked (F, rows) [l] = 0 then ((runUnit F rows l).1, 0) else (0, asked (F, rows) [l])
theorem f12 (F : Int) (rows : List Row) (hl : rows.length < 9223372036854775807) (hvl : ∀ r ∈ rows, r.2.length < 9223372036854775807) (l : List Fld) (hu : l.length < 9223372036854775807) (H : Heap) (frz : Bool) :
    cal (evC cprog) false 12 [.agg [.int .i64 F, .lst (rows.map rRow)], eUnit l] H = some (.tup [.int .i64 (stands F rows l).1, .int .i64 (stands F rows l).2], H) := by
  have h43 := fun B => f43' F rows hl hvl l hu H [B]
  simp only [List.length_cons, List.length_nil, List.cons_append, List.nil_append, Nat.zero_add] at h43
  rw [cal_of at12]
  by_cases ha : asked (F, rows) [l] = 0
  · obtain ⟨hG, hv, hl'⟩ := asked_good ha
    obtain ⟨rv, N, H', h44, hO, _⟩ := f44 F rows hl' hv hG l hu (H ++ [⟨0, true, 24, 2, [[.int .i64 F, .lst (rows.map rRow)]]⟩, ⟨0, true, 25, 1, [[eUnit l]]⟩])
    obtain ⟨G, rfl⟩ := hO.split
    simp only [ha] at h43
    simp only [List.append_assoc, List.cons_append, List.nil_append] at h44
    have hs : stands F rows l = ((runUnit F rows l).1, 0) := by simp [stands, ha]
    rw [hs]
    simp only [c12, cells_unit, isTup_unit, h43, h44, fn_eq, evR, Nat.reduceAdd, Nat.reduceLT, Nat.reduceLeDiff, reduceIte, Nat.reduceEqDiff, reduceCtorEq, argEnv, eq_self, if_true, if_false]
    repeat' (first | (rw [guardK_cases]; split <;> simp only [c12, cells_unit, isTup_unit, h43, h44, evR, Nat.reduceAdd, Nat.reduceLT, Nat.reduceLeDiff, reduceIte, Nat.reduceEqDiff, reduceCtorEq, argEnv, eq_self, if_true, if_false, *]) | (rw [condK_bool]; split <;> simp only [c12, cells_unit, isTup_unit, h43, h44, evR, Nat.reduceAdd, Nat.reduceLT, Nat.reduceLeDiff, reduceIte, Nat.reduceEqDiff, reduceCtorEq, argEnv, eq_self, if_true, if_false, *]))
  · have hs : stands F rows l = (0, asked (F, rows) [l]) := by simp [stands, ha]
    rw [hs]
    simp only [c12, cells_unit, isTup_unit, h43, ha, fn_eq, evR, Nat.reduceAdd, Nat.reduceLT, Nat.reduceLeDiff, reduceIte, Nat.reduceEqDiff, reduceCtorEq, argEnv, eq_self, if_true, if_false]
    repeat' (first | (rw [guardK_cases]; split <;> simp only [c12, cells_unit, isTup_unit, h43, ha, evR, Nat.reduceAdd, Nat.reduceLT, Nat.reduceLeDiff, reduceIte, Nat.reduceEqDiff, reduceCtorEq, argEnv, eq_self, if_true, if_false, *]) | (rw [condK_bool]; split <;> simp only [c12, cells_unit, isTup_unit, h43, ha, evR, Nat.reduceAdd, Nat.reduceLT, Nat.reduceLeDiff, reduceIte, Nat.reduceEqDiff, reduceCtorEq, argEnv, eq_self, if_true, if_false, *]))
end Go.Proofs.Ytehcdcnghcbimaa.Code

/- The document's answer to one call. -/
set_option linter.unusedSimpArgs false
set_option linter.unusedVariables false
namespace Go.Proofs.Ytehcdcnghcbimaa.Code
open Go.Proofs.Ytehcdcnghcbimaa.Ev

/-- no key stands twice -/
def Apart (rows : List Row) : Prop := ∀ (i j : Nat) (r r' : Row), rows[i]? = some r → rows[j]? = some r' → r.1 = r'.1 → i = j
def seen (rows : List Row) (k : ByteArray) (i : Nat) : Int := match rows.findIdx? (fun (r : Row) => decide (r.1 = k)) with
  | some j => if j < i then (j : Int) else -1
  | none => -1
theorem seen_zero (rows : List Row) (k : ByteArray) : seen rows k 0 = -1 := by
  unfold seen
  split
  · rw [if_neg (by omega)]
  · rfl
theorem seen_all (rows : List Row) (k : ByteArray) : seen rows k rows.length = idxOf (fun (r : Row) => decide (r.1 = k)) rows := by
  unfold seen idxOf
  cases h : rows.findIdx? (fun (r : Row) => decide (r.1 = k)) with
  | none => rfl
  | some j => simp only; rw [if_pos (List.findIdx?_eq_some_iff_getElem.1 h).1]
theorem seen_yes {rows : List Row} (hA : Apart rows) {i : Nat} {r : Row} (hr : rows[i]? = some r) : seen rows r.1 (i + 1) = (i : Int) := by
  have hi := (List.getElem?_eq_some_iff.1 hr)
  obtain ⟨hlt, he⟩ := hi
  unfold seen
  cases h : rows.findIdx? (fun (r' : Row) => decide (r'.1 = r.1)) with
  | none =>
    have := List.findIdx?_eq_none_iff.1 h r (List.mem_of_getElem? hr)
    simp at this
  | some j =>
    obtain ⟨h1, h2, _⟩ := List.findIdx?_eq_some_iff_getElem.1 h
    simp only [decide_eq_true_eq] at h2
    have := hA j i _ r (List.getElem?_eq_getElem h1) hr h2
    subst this
    simp only
    rw [if_pos (by omega)]
theorem seen_no {rows : List Row} {k : ByteArray} {i : Nat} {r : Row} (hr : rows[i]? = some r) (hk : r.1 ≠ k) : seen rows k (i + 1) = seen rows k i := by
  unfold seen
  cases h : rows.findIdx? (fun (r' : Row) => decide (r'.1 = k)) with
  | none => rfl
  | some j =>
    obtain ⟨h1, h2, _⟩ := List.findIdx?_eq_some_iff_getElem.1 h
    simp only [decide_eq_true_eq] at h2
    have : j ≠ i := fun e => by
      subst e
      rw [List.getElem?_eq_getElem h1] at hr
      cases hr; exact hk h2
    simp only
    by_cases hj : j < i
    · rw [if_pos hj, if_pos (by omega)]
    · rw [if_neg hj, if_neg (by omega)]
theorem loop57 {rows : List Row} (hA : Apart rows) (hl : rows.length < 9223372036854775807) (F : Int) (rv : AV) (c : Fld) (H : Heap) (hr : RowsAt H rv rows) (st : St)
    (hE : keepEnv st.1 [2, 3, 5, 6] = [(2, .ptr H.length 0 2 0 0), (3, .ptr (H.length + 1) 0 4 0 0), (5, .int .i64 (-1)), (6, .int .i64 0)])
    (hH : st.2 = H ++ [⟨0, true, 24, 2, [[.int .i64 F, rv]]⟩, ⟨0, true, 37, 4, [rFld c]⟩]) (z : Option (CX × St)) (hz : itLim (evCode (evC cprog) itLim c57_l0) st = z) :
    ∃ T, z = some (.exit 0, T, H ++ [⟨0, true, 24, 2, [[.int .i64 F, rv]]⟩, ⟨0, true, 37, 4, [rFld c]⟩]) ∧ keepEnv T [2, 3, 5] = [(2, .ptr H.length 0 2 0 0), (3, .ptr (H.length + 1) 0 4 0 0), (5, .int .i64 (idxOf (fun (r : Row) => decide (r.1 = c.key)) rows))] := by
  have h3 := hr.len
  have L := loop_rule (σ := Nat) (m := [2, 3, 5, 6]) (env := fun i => [(2, .ptr H.length 0 2 0 0), (3, .ptr (H.length + 1) 0 4 0 0), (5, .int .i64 (seen rows c.key i)), (6, .int .i64 (i : Int))])
    (hp := fun _ => H ++ [⟨0, true, 24, 2, [[.int .i64 F, rv]]⟩, ⟨0, true, 37, 4, [rFld c]⟩])
    (P := fun _ r => ∃ T, r = (.exit 0, T, H ++ [⟨0, true, 24, 2, [[.int .i64 F, rv]]⟩, ⟨0, true, 37, 4, [rFld c]⟩]) ∧ keepEnv T [2, 3, 5] = [(2, .ptr H.length 0 2 0 0), (3, .ptr (H.length + 1) 0 4 0 0), (5, .int .i64 (idxOf (fun (r : Row) => decide (r.1 = c.key)) rows))])
    (mu := fun i => rows.length - i) (I := fun i => i ≤ rows.length) (evCode (evC cprog) itLim c57_l0) ?_ 0 st (Nat.zero_le _) (by rw [hE, seen_zero]; rfl) hH z hz
  · obtain ⟨r, rfl, T, rfl, hT⟩ := L
    exact ⟨T, rfl, hT⟩
  · intro i hi E hE
    by_cases hlt : i < rows.length
    · obtain ⟨r, hx⟩ : ∃ r, rows[i]? = some r := ⟨_, List.getElem?_eq_getElem hlt⟩
      obtain ⟨v, p, hv, hp, hat⟩ := hr.get hx
      have hi1 : (i : Int) < (rows.length : Int) := by omega
      simp only [c57_l0, hE, h3, hi1, hp, hat.faddr, hat.fldx, rFld, wrapS hlt hl, fn_eq, evR, Nat.reduceAdd, Nat.reduceLT, Nat.reduceLeDiff, reduceIte, Nat.reduceEqDiff, reduceCtorEq, argEnv, eq_self, if_true, if_false]
      repeat' (first | (rw [guardK_cases]; split <;> simp only [c57_l0, hE, h3, hi1, hp, hat.faddr, hat.fldx, rFld, wrapS hlt hl, evR, Nat.reduceAdd, Nat.reduceLT, Nat.reduceLeDiff, reduceIte, Nat.reduceEqDiff, reduceCtorEq, argEnv, eq_self, if_true, if_false, *]) | (rw [condK_bool]; split <;> simp only [c57_l0, hE, h3, hi1, hp, hat.faddr, hat.fldx, rFld, wrapS hlt hl, evR, Nat.reduceAdd, Nat.reduceLT, Nat.reduceLeDiff, reduceIte, Nat.reduceEqDiff, reduceCtorEq, argEnv, eq_self, if_true, if_false, *]))
      · rename_i hk
        have hk : r.1 = c.key := by simpa using hk
        exact q_next (i + 1) (by rw [← hk, seen_yes hA hx]; rfl) rfl (by omega) (by omega) (fun r h => h)
      · rename_i hk
        have hk : r.1 ≠ c.key := by simpa using hk
        exact q_next (i + 1) (by rw [seen_no hx hk]; rfl) rfl (by omega) (by omega) (fun r h => h)
    · have : i = rows.length := by omega
      subst this
      simp only [c57_l0, hE, h3, Int.lt_irrefl, rFld, fn_eq, evR, Nat.reduceAdd, Nat.reduceLT, Nat.reduceLeDiff, reduceIte, Nat.reduceEqDiff, reduceCtorEq, argEnv, eq_self, if_true, if_false]
      repeat' (first | (rw [guardK_cases]; split <;> simp only [c57_l0, hE, h3, Int.lt_irrefl, rFld, evR, Nat.reduceAdd, Nat.reduceLT, Nat.reduceLeDiff, reduceIte, Nat.reduceEqDiff, reduceCtorEq, argEnv, eq_self, if_true, if_false, *]) | (rw [condK_bool]; split <;> simp only [c57_l0, hE, h3, Int.lt_irrefl, rFld, evR, Nat.reduceAdd, Nat.reduceLT, Nat.reduceLeDiff, reduceIte, Nat.reduceEqDiff, reduceCtorEq, argEnv, eq_self, if_true, if_false, *]))
      exact q_exit ⟨_, rfl, by rw [← seen_all]; rfl⟩
end Go.Proofs.Ytehcdcnghcbimaa.Code

/- The document's answer to one call: what it does. -/
set_option linter.unusedSimpArgs false
set_option linter.unusedVariables false
namespace Go.Proofs.Ytehcdcnghcbimaa.Code
open Go.Proofs.Ytehcdcnghcbimaa.Ev

set_option maxHeartbeats 4000000 in
theorem f57 {H0 : Heap} {N : Nat} {rv : AV} {rows : List Row} {H : Heap} (hO : Own H0 N rv rows H) {F : Int} (hl : rows.length < 9223372036854775807) (hF : ∀ r ∈ rows, (r.2.length : Int) = F) (hA : ∀ r ∈ rows, ∀ n ∈ r.2, isAmount n = true) (hAp : Apart rows) (c : Fld) :
    ∃ H', cal (evC cprog) false 57 [.agg [.int .i64 F, rv], .agg (rFld c)] H = some (.str (doOne F rows c).1, H') ∧ Own H0 N rv (doOne F rows c).2 H' ∧ Keep N H H' := by
  have h3 := hO.rowsAt.len
  have hlp := fun z hz => loop57 hAp hl F rv c H hO.rowsAt ([(6, .int .i64 0), (2, .ptr H.length 0 2 0 0), (3, .ptr (H.length + 1) 0 4 0 0), (5, .int .i64 (-1))], H ++ [⟨0, true, 24, 2, [[.int .i64 F, rv]]⟩, ⟨0, true, 37, 4, [rFld c]⟩]) (by rfl) rfl z hz
  rw [cal_of at57]
  by_cases h1 : idxOf (fun (r : Row) => decide (r.1 = c.key)) rows < 0
  · simp only [rFld] at hlp
    simp only [c57, rFld, fn_eq, evR, Nat.reduceAdd, Nat.reduceLT, Nat.reduceLeDiff, reduceIte, Nat.reduceEqDiff, reduceCtorEq, argEnv, eq_self, if_true, if_false]
    repeat' (first | (rw [guardK_cases]; split <;> simp only [c57, rFld, evR, Nat.reduceAdd, Nat.reduceLT, Nat.reduceLeDiff, reduceIte, Nat.reduceEqDiff, reduceCtorEq, argEnv, eq_self, if_true, if_false, *]) | (rw [condK_bool]; split <;> simp only [c57, rFld, evR, Nat.reduceAdd, Nat.reduceLT, Nat.reduceLeDiff, reduceIte, Nat.reduceEqDiff, reduceCtorEq, argEnv, eq_self, if_true, if_false, *]))
    generalize hz : itLim _ _ = z
    obtain ⟨T, rfl, hT⟩ := hlp z hz
    simp only [hT, h1, fn_eq, evR, Nat.reduceAdd, Nat.reduceLT, Nat.reduceLeDiff, reduceIte, Nat.reduceEqDiff, reduceCtorEq, argEnv, eq_self, if_true, if_false]
    repeat' (first | (rw [guardK_cases]; split <;> simp only [hT, h1, evR, Nat.reduceAdd, Nat.reduceLT, Nat.reduceLeDiff, reduceIte, Nat.reduceEqDiff, reduceCtorEq, argEnv, eq_self, if_true, if_false, *]) | (rw [condK_bool]; split <;> simp only [hT, h1, evR, Nat.reduceAdd, Nat.reduceLT, Nat.reduceLeDiff, reduceIte, Nat.reduceEqDiff, reduceCtorEq, argEnv, eq_self, if_true, if_false, *]))
    exact ⟨H, by simp only [doOne, h1, if_true]; rfl, by simp only [doOne, h1, if_true]; exact hO, .refl _ _⟩
  by_cases h2 : c.field < 0 ∨ F ≤ c.field ∨ isCall c = false
  · have hd : doOne F rows c = (sFI, rows) := by simp only [doOne, h1, h2, if_true, if_false]
    rw [hd]
    refine ⟨H, ?_, hO, .refl _ _⟩
    simp only [rFld] at hlp
    simp only [c57, rFld, fn_eq, evR, Nat.reduceAdd, Nat.reduceLT, Nat.reduceLeDiff, reduceIte, Nat.reduceEqDiff, reduceCtorEq, argEnv, eq_self, if_true, if_false]
    repeat' (first | (rw [guardK_cases]; split <;> simp only [c57, rFld, evR, Nat.reduceAdd, Nat.reduceLT, Nat.reduceLeDiff, reduceIte, Nat.reduceEqDiff, reduceCtorEq, argEnv, eq_self, if_true, if_false, *]) | (rw [condK_bool]; split <;> simp only [c57, rFld, evR, Nat.reduceAdd, Nat.reduceLT, Nat.reduceLeDiff, reduceIte, Nat.reduceEqDiff, reduceCtorEq, argEnv, eq_self, if_true, if_false, *]))
    generalize hz : itLim _ _ = z
    obtain ⟨T, rfl, hT⟩ := hlp z hz
    simp only [hT, h1, f55, f51, fn_eq, evR, Nat.reduceAdd, Nat.reduceLT, Nat.reduceLeDiff, reduceIte, Nat.reduceEqDiff, reduceCtorEq, argEnv, eq_self, if_true, if_false]
    repeat' (first | (rw [guardK_cases]; split <;> simp only [hT, h1, f55, f51, evR, Nat.reduceAdd, Nat.reduceLT, Nat.reduceLeDiff, reduceIte, Nat.reduceEqDiff, reduceCtorEq, argEnv, eq_self, if_true, if_false, *]) | (rw [condK_bool]; split <;> simp only [hT, h1, f55, f51, evR, Nat.reduceAdd, Nat.reduceLT, Nat.reduceLeDiff, reduceIte, Nat.reduceEqDiff, reduceCtorEq, argEnv, eq_self, if_true, if_false, *]))
    all_goals first | rfl | (exfalso; simp_all [isCall]; done) | (exfalso; simp_all [isCall]; omega)
  obtain ⟨i, hi⟩ : ∃ i, rows.findIdx? (fun (r : Row) => decide (r.1 = c.key)) = some i := by
    cases h : rows.findIdx? (fun (r : Row) => decide (r.1 = c.key)) with
    | none => exact absurd (by unfold idxOf; rw [h]; decide) h1
    | some i => exact ⟨i, rfl⟩
  have hidx : idxOf (fun (r : Row) => decide (r.1 = c.key)) rows = (i : Int) := by unfold idxOf; rw [hi]
  have hil : i < rows.length := (List.findIdx?_eq_some_iff_getElem.1 hi).1
  obtain ⟨r, hr⟩ : ∃ r, rows[i]? = some r := ⟨_, List.getElem?_eq_getElem hil⟩
  have hrm := List.mem_of_getElem? hr
  have hcall : isCall c = true := by cases h : isCall c <;> simp_all
  obtain ⟨f, hf⟩ : ∃ f : Nat, c.field = f := ⟨c.field.toNat, by omega⟩
  have hfl : f < r.2.length := by have := hF r hrm; omega
  obtain ⟨n, hn⟩ : ∃ n, r.2[f]? = some n := ⟨_, List.getElem?_eq_getElem hfl⟩
  have hnA := hA r hrm n (List.mem_of_getElem? hn)
  have hcA : isAmount c.n = true := by simp only [isCall, Bool.and_eq_true] at hcall; exact hcall.2
  have hadd : IntKind.i64.wrap (n + c.n) = n + c.n := by simp [isAmount] at hnA hcA; exact wrap_i64 (by omega) (by omega)
  have hsub : IntKind.i64.wrap (n - c.n) = n - c.n := by simp [isAmount] at hnA hcA; exact wrap_i64 (by omega) (by omega)
  rcases hO.tab with ⟨rfl, _⟩ | ⟨b, v, vb, rfl, hL⟩
  · simp at hil
  obtain ⟨w, hw⟩ : ∃ w, vb[i]? = some w := ⟨_, List.getElem?_eq_getElem (by have := hL.len; omega)⟩
  obtain ⟨_, _, kb, hkb, hrow⟩ := hL.blk
  obtain ⟨_, _, _, kw, hkw, hval⟩ := hL.vals i r w hr hw
  have hkbx : ∀ X, blkK (H ++ X)[b]? v 2 = some kb := fun X => curBlk_app hkb
  have hkwx : ∀ X, blkK (H ++ X)[w.1]? w.2 1 = some kw := fun X => curBlk_app hkw
  simp only [rFld, hidx, hf] at hlp
  rw [hidx] at h1
  rw [hf] at h2
  have hre := hrow i r w hr hw
  have hne := hval f n hn
  have hd : doOne F rows c = if holds c n = false then (sFV, rows) else if isAmount (next c n) = false then (sFO, rows) else (sOk, rows.set i (r.1, r.2.set f (next c n))) := by
    have e1 : valAt rows i f = n := by simp [valAt, hr, hn]
    simp only [doOne, h1, h2, if_false, hidx, Int.toNat_natCast, hf, e1, putAt, hr]
  have hset := fun m X => (hL.move (H' := H ++ X) fun g _ hg => List.getElem?_append_left (by have := hO.le; omega)).set hr hw hfl m (curBlk_app (G := X) hkw) (by have := hO.le; simp; omega)
  have hOwn : ∀ m X, Own H0 N (.ref b v 2 0 rows.length) (rows.set i (r.1, r.2.set f m)) ((H ++ X).set w.1 { kw with els := kw.els.set f [.int .i64 m] }) := fun m X => by
    have hp := (hO.app X).pre
    have hle := (hO.app X).le
    obtain ⟨k1, k2, _⟩ := hL.vals i r w hr hw
    refine ⟨?_, by rw [List.length_set]; exact hle, .inr ⟨b, v, vb, by rw [List.length_set], hset m X⟩⟩
    rw [List.take_set_of_le (by omega)]
    exact hp
  suffices h : ∃ H1, evFn (evC cprog) itLim c57 [.agg [.int .i64 F, .ref b v 2 0 rows.length], .agg (rFld c)] H = some (.str (doOne F rows c).1, H1) ∧ Own H0 N (.ref b v 2 0 rows.length) (doOne F rows c).2 H1 ∧ Keep N H H1 by
    obtain ⟨H1, h3, h4, h5⟩ := h
    rw [h3, calK_f]
    rcases gc_or H (.str (doOne F rows c).1) H1 with h | ⟨h, ht⟩
    · exact ⟨H1, by rw [h], h4, h5⟩
    · exact ⟨H, by rw [h], h4.trunc hO.le.2 ht, .refl _ _⟩
  rw [hd]
  have hst : ∀ (m : Int) (X : Heap), holds c n = true → next c n = m → isAmount m = true →
      ∃ H1, some (AV.str sOk, (H ++ X).set w.1 { kw with els := kw.els.set f [.int .i64 m] }) = some (AV.str (if holds c n = false then (sFV, rows) else if isAmount (next c n) = false then (sFO, rows) else (sOk, rows.set i (r.1, r.2.set f (next c n)))).1, H1) ∧
        Own H0 N (.ref b v 2 0 rows.length) (if holds c n = false then (sFV, rows) else if isAmount (next c n) = false then (sFO, rows) else (sOk, rows.set i (r.1, r.2.set f (next c n)))).2 H1 ∧ Keep N H H1 := fun m X g1 g2 g3 => by
    subst g2
    simp only [g1, g3, Bool.true_eq_false, if_false]
    exact ⟨_, rfl, hOwn _ X, (Keep.app N H X).set (hL.vals i r w hr hw).2.1 _⟩
  have hio := isCall_op hcall
  have hf0 : ¬ (f : Int) < 0 := by omega
  have hfF : ¬ F ≤ (f : Int) := fun h => h2 (.inr (.inl h))
  have hop : isOp c.op = true := by simp only [isCall, Bool.and_eq_true] at hcall; exact hcall.1
  simp only [c57, rFld, hf, fn_eq, evR, Nat.reduceAdd, Nat.reduceLT, Nat.reduceLeDiff, reduceIte, Nat.reduceEqDiff, reduceCtorEq, argEnv, eq_self, if_true, if_false]
  repeat' (first | (rw [guardK_cases]; split <;> simp only [c57, rFld, hf, evR, Nat.reduceAdd, Nat.reduceLT, Nat.reduceLeDiff, reduceIte, Nat.reduceEqDiff, reduceCtorEq, argEnv, eq_self, if_true, if_false, *]) | (rw [condK_bool]; split <;> simp only [c57, rFld, hf, evR, Nat.reduceAdd, Nat.reduceLT, Nat.reduceLeDiff, reduceIte, Nat.reduceEqDiff, reduceCtorEq, argEnv, eq_self, if_true, if_false, *]))
  generalize hz : itLim _ _ = z
  obtain ⟨T, rfl, hT⟩ := hlp z hz
  simp only [hT, f55, hop, hcA, hidx, hf, h1, hf0, hfF, hcall, hil, hkbx, hkwx, hre, hne, hfl, f50, f51, hadd, hsub, Int.toNat_natCast, fn_eq, evR, Nat.reduceAdd, Nat.reduceLT, Nat.reduceLeDiff, reduceIte, Nat.reduceEqDiff, reduceCtorEq, argEnv, eq_self, if_true, if_false]
  repeat' (first | (rw [guardK_cases]; split <;> simp only [hT, f55, hop, hcA, hidx, hf, h1, hf0, hfF, hcall, hil, hkbx, hkwx, hre, hne, hfl, f50, f51, hadd, hsub, Int.toNat_natCast, evR, Nat.reduceAdd, Nat.reduceLT, Nat.reduceLeDiff, reduceIte, Nat.reduceEqDiff, reduceCtorEq, argEnv, eq_self, if_true, if_false, *]) | (rw [condK_bool]; split <;> simp only [hT, f55, hop, hcA, hidx, hf, h1, hf0, hfF, hcall, hil, hkbx, hkwx, hre, hne, hfl, f50, f51, hadd, hsub, Int.toNat_natCast, evR, Nat.reduceAdd, Nat.reduceLT, Nat.reduceLeDiff, reduceIte, Nat.reduceEqDiff, reduceCtorEq, argEnv, eq_self, if_true, if_false, *]))
  all_goals first
    | (have hh : holds c n = false := by (simp_all [holds, sVe, sVl, sVg]; done)
       simp only [hh, if_true]; exact ⟨_, rfl, hO.app _, .app _ _ _⟩)
    | (have hh : holds c n = true := by (simp_all [holds, sVe, sVl, sVg]; done)
       have hm : isAmount (next c n) = false := by (simp_all [next, sVe, sVl, sVg, sPl, sMi, sEq]; done)
       simp only [hh, hm, if_true, if_false, Bool.true_eq_false]; exact ⟨_, rfl, hO.app _, .app _ _ _⟩)
    | exact hst _ _ (by simp_all [holds, sVe, sVl, sVg]; done) (by simp_all [next, sVe, sVl, sVg, sPl, sMi, sEq]; done) (by simp_all; done)
    | (exfalso; clear hst hOwn hset hlp; simp_all [sVe, sVl, sVg, sPl, sMi, sEq]; done)
end Go.Proofs.Ytehcdcnghcbimaa.Code

/- The document's copy of a table. -/
set_option linter.unusedSimpArgs false
set_option linter.unusedVariables false
namespace Go.Proofs.Ytehcdcnghcbimaa.Code
open Go.Proofs.Ytehcdcnghcbimaa.Ev

def vpos (j : Nat) : Nat := if j = 0 then 3 else 2 * j + 4
def row59 (base j : Nat) (r : Row) : List AV := [.str r.1, .ref (base + vpos j) 0 1 0 r.2.length]
def bSl (base j : Nat) (r : Row) : Blk := ⟨0, true, 76, 2, [row59 base j r]⟩
def els59 (base : Nat) (rows : List Row) (i : Nat) : List (List AV) := (rows.take i).mapIdx (row59 base)
def tl59 (base : Nat) (rows : List Row) : Nat → Heap
  | 0 => []
  | 1 => []
  | i + 2 => tl59 base rows (i + 1) ++ (match rows[i + 1]? with
    | some r => [bVals r.2, bSl base (i + 1) r]
    | none => [])
def hp59 (F : Int) (rv : AV) (rows : List Row) (r0 : Row) (H : Heap) (i : Nat) : Heap :=
  if i = 0 then H ++ [⟨0, true, 24, 2, [[.int .i64 F, rv]]⟩, ⟨0, true, 24, 2, [[.int .i64 0, .nils]]⟩, ⟨0, true, 24, 2, [[.int .i64 F, .nils]]⟩]
  else H ++ (⟨0, true, 24, 2, [[.int .i64 F, rv]]⟩ :: ⟨0, true, 24, 2, [[.int .i64 0, .nils]]⟩ :: ⟨0, true, 24, 2, [[.int .i64 F, .ref (H.length + 5) (i - 1) 2 0 i]]⟩ :: bVals r0.2 :: bSl H.length 0 r0 :: ⟨i - 1, true, 76, 2, els59 H.length rows i⟩ :: tl59 H.length rows i)
theorem tl59_len (base : Nat) (rows : List Row) : ∀ i, i + 1 ≤ rows.length → (tl59 base rows (i + 1)).length = 2 * i := by
  intro i
  induction i with
  | zero => intro _; rfl
  | succ i ih =>
    intro h
    have := ih (by omega)
    obtain ⟨r, hr⟩ : ∃ r, rows[i + 1]? = some r := ⟨_, List.getElem?_eq_getElem (by omega)⟩
    simp only [tl59, hr, List.length_append, this, List.length_cons, List.length_nil]
    omega
theorem els59_len (base : Nat) (rows : List Row) {i : Nat} (h : i ≤ rows.length) : (els59 base rows i).length = i := by simp [els59]; omega
theorem els59_succ (base : Nat) (rows : List Row) {i : Nat} {r : Row} (hr : rows[i]? = some r) : els59 base rows i ++ [row59 base i r] = els59 base rows (i + 1) := by
  have hi := (List.getElem?_eq_some_iff.1 hr).1
  unfold els59
  rw [List.take_add_one, hr, List.mapIdx_append]
  simp [Nat.min_eq_left (Nat.le_of_lt hi)]
theorem els59_at (base : Nat) (rows : List Row) {i j : Nat} {r : Row} (hr : rows[j]? = some r) (hj : j < i) : (els59 base rows i)[j]? = some (row59 base j r) := by
  unfold els59
  rw [List.getElem?_mapIdx, List.getElem?_take_of_lt hj, hr]; rfl
theorem app_vals {l : List Int} (hne : l ≠ []) (hl : l.length ≤ 1000000) (H : Heap) (a : AV) (ha : srcRows H a = some (l.map fun n => [.int .i64 n])) :
    appK 3 1 8 false H (some .nil0) (some a) = some (.ref H.length 0 1 0 l.length, H ++ [bVals l]) := by
  have := app_nil0 (ty := 3) (sz := 1) (bytes := 8) (H := H) (a := a) (src := l.map fun n => [.int .i64 n]) ha (by simp [hne]) (by cases l <;> simp_all [headOk]) (by simp [reach]; omega)
  simpa [bVals] using this
theorem f59_loop (F : Int) (rows : List Row) (hl : rows.length ≤ 1000000) (hv : ∀ r ∈ rows, r.2 ≠ [] ∧ r.2.length ≤ 1000000) (r0 : Row) (hr0 : rows[0]? = some r0) (rv : AV) (H : Heap) (hR : RowsAt H rv rows)
    (hsrc : ∀ (i : Nat) (r : Row) v p X, rows[i]? = some r → iaddrK 2 (some rv) (some (.int .i64 (i : Int))) = some p → PtrAt H p [.str r.1, v] → srcRows (H ++ X) v = some (r.2.map fun n => [.int .i64 n]))
    (st : St) (z : Option (CX × St))
    (hE : keepEnv st.1 [1, 2, 3, 4] = [(1, .ptr H.length 0 2 0 0), (2, .ptr (H.length + 1) 0 2 0 0), (3, .ptr (H.length + 2) 0 2 0 0), (4, .int .i64 0)])
    (hH : st.2 = hp59 F rv rows r0 H 0) (hz : itLim (evCode (evC cprog) itLim c59_l0) st = z) :
    ∃ T, z = some (.exit 0, T, hp59 F rv rows r0 H rows.length) ∧ keepEnv T [2, 3] = [(2, .ptr (H.length + 1) 0 2 0 0), (3, .ptr (H.length + 2) 0 2 0 0)] := by
  have h3 := hR.len
  have L := loop_rule (σ := Nat) (m := [1, 2, 3, 4]) (env := fun i => [(1, .ptr H.length 0 2 0 0), (2, .ptr (H.length + 1) 0 2 0 0), (3, .ptr (H.length + 2) 0 2 0 0), (4, .int .i64 (i : Int))])
    (hp := hp59 F rv rows r0 H) (P := fun _ r => ∃ T, r = (.exit 0, T, hp59 F rv rows r0 H rows.length) ∧ keepEnv T [2, 3] = [(2, .ptr (H.length + 1) 0 2 0 0), (3, .ptr (H.length + 2) 0 2 0 0)])
    (mu := fun i => rows.length - i) (I := fun i => i ≤ rows.length) (evCode (evC cprog) itLim c59_l0) ?_ 0 st (Nat.zero_le _) hE hH z hz
  · obtain ⟨r, rfl, T, rfl, hT⟩ := L
    exact ⟨T, rfl, hT⟩
  · intro i hi E hE
    by_cases hlt : i < rows.length
    · obtain ⟨r, hr⟩ : ∃ r, rows[i]? = some r := ⟨_, List.getElem?_eq_getElem hlt⟩
      have hm := List.mem_of_getElem? hr
      obtain ⟨v, p, hvv, hp, hat⟩ := hR.get hr
      have hi1 : (i : Int) < (rows.length : Int) := by omega
      have hap := fun X => app_vals (hv r hm).1 (hv r hm).2 (H ++ X) v (hsrc i r v p X hr hp hat)
      by_cases hi0 : i = 0
      · subst hi0
        rw [hr0] at hr; cases hr
        rw [show hp59 F rv rows r0 H 0 = H ++ [⟨0, true, 24, 2, [[.int .i64 F, rv]]⟩, ⟨0, true, 24, 2, [[.int .i64 0, .nils]]⟩, ⟨0, true, 24, 2, [[.int .i64 F, .nils]]⟩] from rfl]
        simp only [bVals] at hap
        simp only [c59_l0, hE, h3, hi1, hp, hat.faddr, hat.fldx, hap, reach, Nat.reduceMul, Option.map_some, wrapS hlt (by omega), evW, fn_eq, evR, Nat.reduceAdd, Nat.reduceLT, Nat.reduceLeDiff, reduceIte, Nat.reduceEqDiff, reduceCtorEq, argEnv, eq_self, if_true, if_false]
        repeat' (first | (rw [guardK_cases]; split <;> simp only [c59_l0, hE, h3, hi1, hp, hat.faddr, hat.fldx, hap, reach, Nat.reduceMul, Option.map_some, wrapS hlt (by omega), evW, evR, Nat.reduceAdd, Nat.reduceLT, Nat.reduceLeDiff, reduceIte, Nat.reduceEqDiff, reduceCtorEq, argEnv, eq_self, if_true, if_false, *]) | (rw [condK_bool]; split <;> simp only [c59_l0, hE, h3, hi1, hp, hat.faddr, hat.fldx, hap, reach, Nat.reduceMul, Option.map_some, wrapS hlt (by omega), evW, evR, Nat.reduceAdd, Nat.reduceLT, Nat.reduceLeDiff, reduceIte, Nat.reduceEqDiff, reduceCtorEq, argEnv, eq_self, if_true, if_false, *]) | (rw [guardD_cases]; split <;> simp only [c59_l0, hE, h3, hi1, hp, hat.faddr, hat.fldx, hap, reach, Nat.reduceMul, Option.map_some, wrapS hlt (by omega), evW, evR, Nat.reduceAdd, Nat.reduceLT, Nat.reduceLeDiff, reduceIte, Nat.reduceEqDiff, reduceCtorEq, argEnv, eq_self, if_true, if_false, *]))
        have e1 : els59 H.length rows 1 = [row59 H.length 0 r0] := by rw [← els59_succ H.length rows hr0]; simp [els59]
        exact q_next 1 (by rfl) (by rw [hp59, if_neg (by omega), e1]; rfl) (by omega) (by omega) (fun r h => h)
      · obtain ⟨i', rfl⟩ : ∃ i', i = i' + 1 := ⟨i - 1, by omega⟩
        rw [show hp59 F rv rows r0 H (i' + 1) = _ from if_neg hi0]
        have htl := tl59_len H.length rows i' hi
        have hel := els59_len H.length rows hi
        have hs := els59_succ H.length rows hr
        have htk : (els59 H.length rows (i' + 1)).take (i' + 1) = els59 H.length rows (i' + 1) := List.take_of_length_le (by omega)
        have hb1 : (i' + 1 + 1) * 40 ≤ 140737488355328 := by omega
        have hb2 : i' + 1 + 1 ≤ 140737488355328 := by omega
        generalize hTl : tl59 H.length rows (i' + 1) = Tl at *
        generalize hEl : els59 H.length rows (i' + 1) = El at *
        simp only [bVals] at hap
        simp only [Nat.add_sub_cancel, bVals, bSl]
        simp only [c59_l0, hE, h3, hi1, hp, hat.faddr, hat.fldx, hap, reach, htk, hb1, hb2, Option.map_some, wrapS hlt (by omega), evW, fn_eq, evR, Nat.reduceAdd, Nat.reduceLT, Nat.reduceLeDiff, reduceIte, Nat.reduceEqDiff, reduceCtorEq, argEnv, eq_self, if_true, if_false]
        repeat' (first | (rw [guardK_cases]; split <;> simp only [c59_l0, hE, h3, hi1, hp, hat.faddr, hat.fldx, hap, reach, htk, hb1, hb2, Option.map_some, wrapS hlt (by omega), evW, evR, Nat.reduceAdd, Nat.reduceLT, Nat.reduceLeDiff, reduceIte, Nat.reduceEqDiff, reduceCtorEq, argEnv, eq_self, if_true, if_false, *]) | (rw [condK_bool]; split <;> simp only [c59_l0, hE, h3, hi1, hp, hat.faddr, hat.fldx, hap, reach, htk, hb1, hb2, Option.map_some, wrapS hlt (by omega), evW, evR, Nat.reduceAdd, Nat.reduceLT, Nat.reduceLeDiff, reduceIte, Nat.reduceEqDiff, reduceCtorEq, argEnv, eq_self, if_true, if_false, *]) | (rw [guardD_cases]; split <;> simp only [c59_l0, hE, h3, hi1, hp, hat.faddr, hat.fldx, hap, reach, htk, hb1, hb2, Option.map_some, wrapS hlt (by omega), evW, evR, Nat.reduceAdd, Nat.reduceLT, Nat.reduceLeDiff, reduceIte, Nat.reduceEqDiff, reduceCtorEq, argEnv, eq_self, if_true, if_false, *]))
        have e2 : row59 H.length (i' + 1) r = [.str r.1, .ref (H.length + (Tl.length + 6)) 0 1 0 r.2.length] := by
          unfold row59 vpos
          rw [if_neg (by omega), htl, show 2 * (i' + 1) + 4 = 2 * i' + 6 by omega]
        exact q_next (i' + 2) (by rfl) (by
          rw [hp59, if_neg (by omega), ← hs, e2]
          simp only [tl59, hr, hTl, bSl, bVals, e2, Nat.add_sub_cancel]
          rfl) (by omega) (by omega) (fun r h => h)
    · have : i = rows.length := by omega
      subst this
      by_cases hi0 : rows.length = 0
      · rw [List.getElem?_eq_none (by omega)] at hr0; cases hr0
      · rw [show hp59 F rv rows r0 H rows.length = _ from if_neg hi0]
        simp only [c59_l0, hE, h3, Int.lt_irrefl, fn_eq, evR, Nat.reduceAdd, Nat.reduceLT, Nat.reduceLeDiff, reduceIte, Nat.reduceEqDiff, reduceCtorEq, argEnv, eq_self, if_true, if_false]
        repeat' (first | (rw [guardK_cases]; split <;> simp only [c59_l0, hE, h3, Int.lt_irrefl, evR, Nat.reduceAdd, Nat.reduceLT, Nat.reduceLeDiff, reduceIte, Nat.reduceEqDiff, reduceCtorEq, argEnv, eq_self, if_true, if_false, *]) | (rw [condK_bool]; split <;> simp only [c59_l0, hE, h3, Int.lt_irrefl, evR, Nat.reduceAdd, Nat.reduceLT, Nat.reduceLeDiff, reduceIte, Nat.reduceEqDiff, reduceCtorEq, argEnv, eq_self, if_true, if_false, *]))
        exact q_exit ⟨_, rfl, by rfl⟩
theorem tl59_at (base : Nat) (rows : List Row) {j : Nat} {r : Row} (hr : rows[j + 1]? = some r) : ∀ i, i + 1 ≤ rows.length → j < i → (tl59 base rows (i + 1))[2 * j]? = some (bVals r.2) := by
  intro i
  induction i with
  | zero => intro _ h; omega
  | succ i ih =>
    intro hi hj
    obtain ⟨r', hr'⟩ : ∃ r', rows[i + 1]? = some r' := ⟨_, List.getElem?_eq_getElem (by omega)⟩
    have hl := tl59_len base rows i (by omega)
    simp only [tl59, hr']
    by_cases h : j < i
    · rw [List.getElem?_append_left (by omega)]
      exact ih (by omega) h
    · have : j = i := by omega
      subst this
      rw [hr] at hr'; cases hr'
      rw [List.getElem?_append_right (by omega), hl, Nat.sub_self]
      rfl
theorem own59 (rows : List Row) (r0 : Row) (hr0 : rows[0]? = some r0) (H : Heap) (B1 B2 B3 : Blk) :
    Own H (H.length + (2 * rows.length + 4)) (.ref (H.length + 5) (rows.length - 1) 2 0 rows.length) rows (H ++ (B1 :: B2 :: B3 :: bVals r0.2 :: bSl H.length 0 r0 :: ⟨rows.length - 1, true, 76, 2, els59 H.length rows rows.length⟩ :: tl59 H.length rows rows.length)) := by
  have hpos : 0 < rows.length := (List.getElem?_eq_some_iff.1 hr0).1
  obtain ⟨m, hm⟩ : ∃ m, rows.length = m + 1 := ⟨rows.length - 1, by omega⟩
  have htl := tl59_len H.length rows m (by omega)
  have hvb : ∀ (i : Nat) (w : Nat × Nat), ((List.range rows.length).map fun j => (H.length + vpos j, 0))[i]? = some w → w = (H.length + vpos i, 0) := fun i w hw => by
    rw [List.getElem?_map] at hw
    cases h : (List.range rows.length)[i]? with
    | none => simp [h] at hw
    | some j =>
      have := (List.getElem?_eq_some_iff.1 h).2
      simp at this
      subst this
      simp [h] at hw
      exact hw.symm
  have hvp : ∀ i, i < rows.length → 3 ≤ vpos i ∧ vpos i < 2 * rows.length + 4 ∧ vpos i ≠ 5 := fun i hi => by
    unfold vpos; split <;> omega
  refine ⟨by simp, ⟨by omega, by rw [hm] at *; simp [htl]; omega⟩, .inr ⟨_, _, (List.range rows.length).map fun j => (H.length + vpos j, 0), rfl, by simp, ⟨by omega, by omega, ⟨rows.length - 1, true, 76, 2, els59 H.length rows rows.length⟩, by simp only [curBlk_eq, at_app, List.getElem?_cons_succ, List.getElem?_cons_zero, blkK_some, and_self, if_true], fun i r w hr hw => ?_⟩, fun i r w hr hw => ?_, fun i j w u hw hu hij => ?_⟩⟩
  · rw [hvb i w hw]
    exact els59_at H.length rows hr (List.getElem?_eq_some_iff.1 hr).1
  · rw [hvb i w hw]
    have hi := (List.getElem?_eq_some_iff.1 hr).1
    obtain ⟨k1, k2, k3⟩ := hvp i hi
    refine ⟨by simp only; omega, by simp only; omega, by simp only; omega, bVals r.2, ?_, fun j n hj => by simp [bVals, hj]⟩
    simp only [curBlk_eq, at_app]
    cases i with
    | zero => rw [hr0] at hr; cases hr; rfl
    | succ i =>
      rw [show vpos (i + 1) = 2 * i + 1 + 1 + 1 + 1 + 1 + 1 by unfold vpos; rw [if_neg (by omega)]; omega]
      simp only [List.getElem?_cons_succ]
      rw [hm, tl59_at H.length rows hr m (by omega) (by omega)]
      rfl
  · rw [hvb i w hw, hvb j u hu]
    simp only
    unfold vpos
    split <;> split <;> omega
theorem src_lst (rows : List Row) {i : Nat} {r : Row} {v p : AV} {H : Heap} (hr : rows[i]? = some r) (hp : iaddrK 2 (some (.lst (rows.map rRow))) (some (.int .i64 (i : Int))) = some p) (hat : PtrAt H p [.str r.1, v]) (X : Heap) :
    srcRows (H ++ X) v = some (r.2.map fun n => [.int .i64 n]) := by
  have h : (rows.map rRow)[i]? = some (rRow r) := by rw [List.getElem?_map, hr]; rfl
  rw [iaddr_lst, asNat_cast, atK_some, h, rowK_some, if_pos (show (rRow r).length = 2 from rfl)] at hp
  cases hp
  rcases hat with hat | ⟨b, v', s, i', k, hat, _⟩
  · cases hat; rfl
  · cases hat
theorem itLim_exit {body : St → Option (CX × St)} {s s' : St} {i : Nat} (h : body s = some (.exit i, s')) : itLim body s = some (.exit i, s') := by rw [itLim_eq, h]
theorem f59 (F : Int) (rows : List Row) (hl : rows.length ≤ 1000000) (hv : ∀ r ∈ rows, r.2 ≠ [] ∧ r.2.length ≤ 1000000) (H : Heap) :
    ∃ rv G N, cal (evC cprog) false 59 [.agg [.int .i64 F, .lst (rows.map rRow)]] H = some (.agg [.int .i64 F, rv], H ++ G) ∧ Own H N rv rows (H ++ G) := by
  rw [cal_of at59]
  cases rows with
  | nil =>
    simp only [c59, fn_eq, evR, Nat.reduceAdd, Nat.reduceLT, Nat.reduceLeDiff, reduceIte, Nat.reduceEqDiff, reduceCtorEq, argEnv, eq_self, if_true, if_false]
    repeat' (first | (rw [guardK_cases]; split <;> simp only [c59, evR, Nat.reduceAdd, Nat.reduceLT, Nat.reduceLeDiff, reduceIte, Nat.reduceEqDiff, reduceCtorEq, argEnv, eq_self, if_true, if_false, *]) | (rw [condK_bool]; split <;> simp only [c59, evR, Nat.reduceAdd, Nat.reduceLT, Nat.reduceLeDiff, reduceIte, Nat.reduceEqDiff, reduceCtorEq, argEnv, eq_self, if_true, if_false, *]))
    have h0 : ((0 : Nat) : Int) = 0 := rfl
    rw [itLim_eq]
    simp only [c59_l0, List.map_nil, h0, Int.lt_irrefl, fn_eq, evR, Nat.reduceAdd, Nat.reduceLT, Nat.reduceLeDiff, reduceIte, Nat.reduceEqDiff, reduceCtorEq, argEnv, eq_self, if_true, if_false]
    repeat' (first | (rw [guardK_cases]; split <;> simp only [c59_l0, List.map_nil, h0, Int.lt_irrefl, evR, Nat.reduceAdd, Nat.reduceLT, Nat.reduceLeDiff, reduceIte, Nat.reduceEqDiff, reduceCtorEq, argEnv, eq_self, if_true, if_false, *]) | (rw [condK_bool]; split <;> simp only [c59_l0, List.map_nil, h0, Int.lt_irrefl, evR, Nat.reduceAdd, Nat.reduceLT, Nat.reduceLeDiff, reduceIte, Nat.reduceEqDiff, reduceCtorEq, argEnv, eq_self, if_true, if_false, *]))
    exact ⟨.nils, [], H.length, by simp, by simp, ⟨by simp, by simp⟩, .inl ⟨rfl, .inr rfl⟩⟩
  | cons r0 rs =>
    have hR := RowsAt.lst H (r0 :: rs)
    have hlp := f59_loop F (r0 :: rs) hl hv r0 rfl (.lst ((r0 :: rs).map rRow)) H hR (fun i r v p X hr hp hat => src_lst _ hr hp hat X)
    generalize hrows : r0 :: rs = rows at *
    simp only [c59, fn_eq, evR, Nat.reduceAdd, Nat.reduceLT, Nat.reduceLeDiff, reduceIte, Nat.reduceEqDiff, reduceCtorEq, argEnv, eq_self, if_true, if_false]
    repeat' (first | (rw [guardK_cases]; split <;> simp only [c59, evR, Nat.reduceAdd, Nat.reduceLT, Nat.reduceLeDiff, reduceIte, Nat.reduceEqDiff, reduceCtorEq, argEnv, eq_self, if_true, if_false, *]) | (rw [condK_bool]; split <;> simp only [c59, evR, Nat.reduceAdd, Nat.reduceLT, Nat.reduceLeDiff, reduceIte, Nat.reduceEqDiff, reduceCtorEq, argEnv, eq_self, if_true, if_false, *]))
    generalize hz : itLim _ _ = z
    obtain ⟨T, rfl, hT⟩ := hlp _ z (by rfl) (by rw [hp59, if_pos rfl]) hz
    rw [show hp59 F (.lst (rows.map rRow)) rows r0 H rows.length = _ from if_neg (by rw [← hrows]; simp)]
    simp only [hT, fn_eq, evR, Nat.reduceAdd, Nat.reduceLT, Nat.reduceLeDiff, reduceIte, Nat.reduceEqDiff, reduceCtorEq, argEnv, eq_self, if_true, if_false]
    repeat' (first | (rw [guardK_cases]; split <;> simp only [hT, evR, Nat.reduceAdd, Nat.reduceLT, Nat.reduceLeDiff, reduceIte, Nat.reduceEqDiff, reduceCtorEq, argEnv, eq_self, if_true, if_false, *]) | (rw [condK_bool]; split <;> simp only [hT, evR, Nat.reduceAdd, Nat.reduceLT, Nat.reduceLeDiff, reduceIte, Nat.reduceEqDiff, reduceCtorEq, argEnv, eq_self, if_true, if_false, *]))
    exact ⟨_, _, _, rfl, own59 rows r0 (by rw [← hrows]; rfl) H _ _ _⟩
end Go.Proofs.Ytehcdcnghcbimaa.Code

/- The document's unit on a copy. -/
set_option linter.unusedSimpArgs false
set_option linter.unusedVariables false
namespace Go.Proofs.Ytehcdcnghcbimaa.Code
open Go.Proofs.Ytehcdcnghcbimaa.Ev

theorem Apart.doOne {F : Int} {rows : List Row} (h : Apart rows) (c : Fld) : Apart (doOne F rows c).2 := by
  unfold Code.doOne
  split
  · exact h
  · split
    · exact h
    · split
      · exact h
      · split
        · exact h
        · simp only [putAt]
          split
          · rename_i r hr
            have hg : ∀ (a : Nat) (x : Row) (i : Nat) (r' : Row), rows[i]? = some r → r'.1 = r.1 → (rows.set i r')[a]? = some x → ∃ y, rows[a]? = some y ∧ y.1 = x.1 := fun a x i r' hr he hx => by
              by_cases ha : a = i
              · subst ha
                rw [List.getElem?_set_self (List.getElem?_eq_some_iff.1 hr).1] at hx
                cases hx
                exact ⟨r, hr, he.symm⟩
              · rw [List.getElem?_set_ne (fun e => ha e.symm)] at hx
                exact ⟨x, hx, rfl⟩
            intro i j x y hx hy he
            obtain ⟨x', h1, h2⟩ := hg i x _ (r.1, r.2.set _ _) hr rfl hx
            obtain ⟨y', h3, h4⟩ := hg j y _ (r.1, r.2.set _ _) hr rfl hy
            exact h i j x' y' h1 h3 (by rw [h2, h4, he])
          · exact h
structure DoneInv (H0 : Heap) (N b6 : Nat) (F : Int) (rv : AV) (m : Nat) (rows : List Row) (H : Heap) : Prop where
  own : Own H0 N rv rows H
  good : GoodRows F rows
  len : rows.length = m
  apart : Apart rows
  box : H[b6]? = some ⟨0, true, 24, 2, [[.int .i64 F, rv]]⟩
theorem f57' {H0 : Heap} {N b6 : Nat} {F : Int} {rv : AV} {m : Nat} (hm : m < 9223372036854775807) (hN : N ≤ b6) {rows : List Row} {H : Heap} (hI : DoneInv H0 N b6 F rv m rows H) (c : Fld) :
    ∃ H', cal (evC cprog) false 57 [.agg [.int .i64 F, rv], .agg (rFld c)] H = some (.str (doOne F rows c).1, H') ∧ DoneInv H0 N b6 F rv m (after F rows c) H' := by
  obtain ⟨H1, h1, h2, h3⟩ := f57 hI.own (by have := hI.len; omega) (fun r hr => (hI.good r hr).1) (fun r hr => (hI.good r hr).2) hI.apart c
  exact ⟨H1, h1, h2, hI.good.doOne c, by rw [after, length_doOne]; exact hI.len, hI.apart.doOne c, by rw [h3.2 b6 hN (List.getElem?_eq_some_iff.1 hI.box).1]; exact hI.box⟩
theorem f46_loop {H0 : Heap} {N b6 b4 : Nat} {F : Int} {rv : AV} {m : Nat} (hm : m < 9223372036854775807) (hN : N ≤ b6) (hb4 : H0[b4]? = some ⟨0, true, 24, 2, [[.int .i64 0, .nils]]⟩)
    (l : List Fld) (hl : l.length < 9223372036854775807) (rows : List Row) (H : Heap) (hI : DoneInv H0 N b6 F rv m rows H) (st : St) (z : Option (CX × St))
    (hE : keepEnv st.1 [1, 4, 6, 7] = [(1, eUnit l), (4, .ptr b4 0 2 0 0), (6, .ptr b6 0 2 0 0), (7, .int .i64 0)]) (hH : st.2 = H) (hz : itLim (evCode (evC cprog) itLim c46_l0) st = z) :
    ∃ T Hc, DoneInv H0 N b6 F rv m (runUnit F rows l).2 Hc ∧ if (runUnit F rows l).1 = -1 then z = some (.exit 0, T, Hc) ∧ keepEnv T [4, 6] = [(4, .ptr b4 0 2 0 0), (6, .ptr b6 0 2 0 0)]
      else z = some (.ret, T, Hc.set b4 ⟨0, true, 24, 2, [[.int .i64 F, rv]]⟩) ∧ get T 4 = some (.ptr b4 0 2 0 0) ∧ get T 5 = some (.int .i64 (runUnit F rows l).1) := by
  have h4 := (sUnit [] l).len
  simp only [List.length_map] at h4
  have L := loop_rule (σ := Nat × List Row × Heap) (m := [1, 4, 6, 7]) (env := fun i => [(1, eUnit l), (4, .ptr b4 0 2 0 0), (6, .ptr b6 0 2 0 0), (7, .int .i64 (i.1 : Int))]) (hp := fun i => i.2.2)
    (P := fun i r => ∃ T Hc, DoneInv H0 N b6 F rv m (runIdx (bad F) (after F) i.2.1 (l.drop i.1) i.1).2 Hc ∧ if (runIdx (bad F) (after F) i.2.1 (l.drop i.1) i.1).1 = -1 then r = (.exit 0, T, Hc) ∧ keepEnv T [4, 6] = [(4, .ptr b4 0 2 0 0), (6, .ptr b6 0 2 0 0)]
      else r = (.ret, T, Hc.set b4 ⟨0, true, 24, 2, [[.int .i64 F, rv]]⟩) ∧ get T 4 = some (.ptr b4 0 2 0 0) ∧ get T 5 = some (.int .i64 (runIdx (bad F) (after F) i.2.1 (l.drop i.1) i.1).1))
    (mu := fun i => l.length - i.1) (I := fun i => i.1 ≤ l.length ∧ DoneInv H0 N b6 F rv m i.2.1 i.2.2) (evCode (evC cprog) itLim c46_l0) ?_ (0, rows, H) st ⟨Nat.zero_le _, hI⟩ hE hH z hz
  · obtain ⟨r, rfl, T, Hc, h1, h2⟩ := L
    simp only [List.drop_zero] at h1 h2
    refine ⟨T, Hc, h1, ?_⟩
    unfold runUnit
    split
    · rename_i h; rw [if_pos h] at h2; exact ⟨by rw [h2.1], h2.2⟩
    · rename_i h; rw [if_neg h] at h2; exact ⟨by rw [h2.1], h2.2⟩
  · intro ⟨i, rows, H⟩ ⟨hi, hI⟩ E hE
    simp only at hi hI hE ⊢
    by_cases hlt : i < l.length
    · obtain ⟨c, hx⟩ : ∃ c, l[i]? = some c := ⟨_, List.getElem?_eq_getElem hlt⟩
      have hd : l.drop i = c :: l.drop (i + 1) := by
        rw [List.drop_eq_getElem_cons hlt]
        rw [List.getElem?_eq_getElem hlt] at hx
        cases hx; rfl
      have hi1 : (i : Int) < (l.length : Int) := by omega
      obtain ⟨_, p, hp, hat⟩ := (sUnit H l).get i (rFld c) (by rw [List.getElem?_map, hx]; rfl)
      obtain ⟨H', hc, hI'⟩ := f57' hm hN hI c
      have hbx := hI.box
      have hbx' := hI'.box
      have hb4' : ∀ {rows Hc}, DoneInv H0 N b6 F rv m rows Hc → Hc[b4]? = some ⟨0, true, 24, 2, [[.int .i64 0, .nils]]⟩ := fun h => by
        have h1 := (List.getElem?_eq_some_iff.1 hb4).1
        rw [← h.own.pre, List.getElem?_take_of_lt h1] at hb4; exact hb4
      have h4' := hb4' hI'
      simp only [c46_l0, hE, h4, hi1, hp, hat.agg (n := 4) rfl, hbx, hbx', h4', hc, wrapS hlt hl, fn_eq, evR, Nat.reduceAdd, Nat.reduceLT, Nat.reduceLeDiff, reduceIte, Nat.reduceEqDiff, reduceCtorEq, argEnv, eq_self, if_true, if_false]
      repeat' (first | (rw [guardK_cases]; split <;> simp only [c46_l0, hE, h4, hi1, hp, hat.agg (n := 4) rfl, hbx, hbx', h4', hc, wrapS hlt hl, evR, Nat.reduceAdd, Nat.reduceLT, Nat.reduceLeDiff, reduceIte, Nat.reduceEqDiff, reduceCtorEq, argEnv, eq_self, if_true, if_false, *]) | (rw [condK_bool]; split <;> simp only [c46_l0, hE, h4, hi1, hp, hat.agg (n := 4) rfl, hbx, hbx', h4', hc, wrapS hlt hl, evR, Nat.reduceAdd, Nat.reduceLT, Nat.reduceLeDiff, reduceIte, Nat.reduceEqDiff, reduceCtorEq, argEnv, eq_self, if_true, if_false, *]))
      · rename_i h
        have hbad : bad F rows c = true := h
        have e : runIdx (bad F) (after F) rows (l.drop i) i = ((i : Int), after F rows c) := by rw [hd, runIdx, if_pos hbad]
        refine q_ret ?_
        simp only [e, if_neg (show ¬ (i : Int) = -1 by omega)]
        exact ⟨_, H', hI', rfl, by simp only [evR, Nat.reduceAdd, Nat.reduceLT, Nat.reduceLeDiff, reduceIte, Nat.reduceEqDiff, reduceCtorEq, argEnv, eq_self, if_true, if_false], by simp only [evR, Nat.reduceAdd, Nat.reduceLT, Nat.reduceLeDiff, reduceIte, Nat.reduceEqDiff, reduceCtorEq, argEnv, eq_self, if_true, if_false]⟩
      · rename_i h
        have hbad : bad F rows c = false := by
          cases hb : bad F rows c with
          | false => rfl
          | true => exact absurd hb h
        have e : runIdx (bad F) (after F) rows (l.drop i) i = runIdx (bad F) (after F) (after F rows c) (l.drop (i + 1)) (i + 1) := by rw [hd, runIdx, if_neg (by simp [hbad])]
        exact q_next (i + 1, after F rows c, H') (by rfl) rfl ⟨by omega, hI'⟩ (by simp only; omega) (fun r h => by simp only [e]; exact h)
    · have : i = l.length := by omega
      subst this
      simp only [c46_l0, hE, h4, Int.lt_irrefl, fn_eq, evR, Nat.reduceAdd, Nat.reduceLT, Nat.reduceLeDiff, reduceIte, Nat.reduceEqDiff, reduceCtorEq, argEnv, eq_self, if_true, if_false]
      repeat' (first | (rw [guardK_cases]; split <;> simp only [c46_l0, hE, h4, Int.lt_irrefl, evR, Nat.reduceAdd, Nat.reduceLT, Nat.reduceLeDiff, reduceIte, Nat.reduceEqDiff, reduceCtorEq, argEnv, eq_self, if_true, if_false, *]) | (rw [condK_bool]; split <;> simp only [c46_l0, hE, h4, Int.lt_irrefl, evR, Nat.reduceAdd, Nat.reduceLT, Nat.reduceLeDiff, reduceIte, Nat.reduceEqDiff, reduceCtorEq, argEnv, eq_self, if_true, if_false, *]))
      refine q_exit ?_
      have e0 : runIdx (bad F) (after F) rows [] l.length = (-1, rows) := rfl
      simp only [List.drop_length, e0, if_true]
      exact ⟨_, H, hI, rfl, by rfl⟩
end Go.Proofs.Ytehcdcnghcbimaa.Code

/- The document's unit: what it leaves. -/
set_option linter.unusedSimpArgs false
set_option linter.unusedVariables false
namespace Go.Proofs.Ytehcdcnghcbimaa.Code
open Go.Proofs.Ytehcdcnghcbimaa.Ev

theorem own_end {H G' : Heap} {B1 B2 : Blk} (B1' B2' : Blk) {N : Nat} {rv : AV} {rows : List Row} (h : Own (H ++ [B1, B2]) N rv rows (H ++ [B1, B2] ++ G')) : ∃ N', Own H N' rv rows (if noRef0 rv = true then H else H ++ (B1' :: B2' :: G')) := by
  rcases h.tab with ⟨rfl, rfl | rfl⟩ | ⟨b, v, vb, rfl, h2⟩
  · exact ⟨H.length, by simp [noRef0], by simp [noRef0], .inl ⟨rfl, .inl rfl⟩⟩
  · exact ⟨H.length, by simp [noRef0], by simp [noRef0], .inl ⟨rfl, .inr rfl⟩⟩
  · refine ⟨N, ?_⟩
    have h := (h.swap (H1' := H ++ [B1', B2']) (by simp)).weaken
    simpa [noRef0] using h
theorem f46 (F : Int) (rows : List Row) (hl : rows.length ≤ 1000000) (hv : ∀ r ∈ rows, r.2 ≠ [] ∧ r.2.length ≤ 1000000) (hG : GoodRows F rows) (hA : Apart rows) (l : List Fld) (hu : l.length < 9223372036854775807) (H : Heap) :
    ∃ rv N H', cal (evC cprog) false 46 [.agg [.int .i64 F, .lst (rows.map rRow)], eUnit l] H = some (.tup [.agg [.int .i64 F, rv], .int .i64 (runUnit F rows l).1], H') ∧ Own H N rv (runUnit F rows l).2 H' ∧ GoodRows F (runUnit F rows l).2 := by
  obtain ⟨rv, G, N, h59, hO⟩ := f59 F rows hl hv (H ++ [⟨0, true, 24, 2, [[.int .i64 F, .lst (rows.map rRow)]]⟩, ⟨0, true, 24, 2, [[.int .i64 0, .nils]]⟩])
  have hle := hO.le
  have hI : DoneInv (H ++ [⟨0, true, 24, 2, [[.int .i64 F, .lst (rows.map rRow)]]⟩, ⟨0, true, 24, 2, [[.int .i64 0, .nils]]⟩]) N (H.length + (G.length + 2)) F rv rows.length rows
      (H ++ [⟨0, true, 24, 2, [[.int .i64 F, .lst (rows.map rRow)]]⟩, ⟨0, true, 24, 2, [[.int .i64 0, .nils]]⟩] ++ G ++ [⟨0, true, 24, 2, [[.int .i64 F, rv]]⟩]) :=
    ⟨hO.app _, hG, rfl, hA, by simp only [evR, Nat.reduceAdd, Nat.reduceLT, Nat.reduceLeDiff, reduceIte, Nat.reduceEqDiff, reduceCtorEq, argEnv, eq_self, if_true, if_false]⟩
  have hlp := fun st z => f46_loop (b4 := H.length + 1) (by omega : rows.length < 9223372036854775807) (by simp at hle; omega) (by simp only [evR, Nat.reduceAdd, Nat.reduceLT, Nat.reduceLeDiff, reduceIte, Nat.reduceEqDiff, reduceCtorEq, argEnv, eq_self, if_true, if_false]) l hu rows _ hI st z
  rw [cal_of at46]
  simp only [List.append_assoc, List.cons_append, List.nil_append] at h59 hlp
  simp only [c46, h59, fn_eq, evR, Nat.reduceAdd, Nat.reduceLT, Nat.reduceLeDiff, reduceIte, Nat.reduceEqDiff, reduceCtorEq, argEnv, eq_self, if_true, if_false]
  repeat' (first | (rw [guardK_cases]; split <;> simp only [c46, h59, evR, Nat.reduceAdd, Nat.reduceLT, Nat.reduceLeDiff, reduceIte, Nat.reduceEqDiff, reduceCtorEq, argEnv, eq_self, if_true, if_false, *]) | (rw [condK_bool]; split <;> simp only [c46, h59, evR, Nat.reduceAdd, Nat.reduceLT, Nat.reduceLeDiff, reduceIte, Nat.reduceEqDiff, reduceCtorEq, argEnv, eq_self, if_true, if_false, *]))
  generalize hz : itLim _ _ = z
  obtain ⟨T, Hc, hD, hz'⟩ := hlp _ z (by rfl) (by simp only [evR, Nat.reduceAdd, Nat.reduceLT, Nat.reduceLeDiff, reduceIte, Nat.reduceEqDiff, reduceCtorEq, argEnv, eq_self, if_true, if_false]) hz
  obtain ⟨G', hG'⟩ := hD.own.split
  have hown := hD.own
  have hbox := hD.box
  rw [hG'] at hown hbox
  simp only [evR, Nat.reduceAdd, Nat.reduceLT, Nat.reduceLeDiff, reduceIte, Nat.reduceEqDiff, reduceCtorEq, argEnv, eq_self, if_true, if_false] at hbox
  rw [hG'] at hz'
  simp only [List.append_assoc, List.cons_append, List.nil_append] at hz'
  by_cases hq : (runUnit F rows l).1 = -1
  · rw [if_pos hq] at hz'
    obtain ⟨rfl, hT⟩ := hz'
    rw [hq]
    simp only [hT, hbox, fn_eq, evR, Nat.reduceAdd, Nat.reduceLT, Nat.reduceLeDiff, reduceIte, Nat.reduceEqDiff, reduceCtorEq, argEnv, eq_self, if_true, if_false]
    repeat' (first | (rw [guardK_cases]; split <;> simp only [hT, hbox, evR, Nat.reduceAdd, Nat.reduceLT, Nat.reduceLeDiff, reduceIte, Nat.reduceEqDiff, reduceCtorEq, argEnv, eq_self, if_true, if_false, *]) | (rw [condK_bool]; split <;> simp only [hT, hbox, evR, Nat.reduceAdd, Nat.reduceLT, Nat.reduceLeDiff, reduceIte, Nat.reduceEqDiff, reduceCtorEq, argEnv, eq_self, if_true, if_false, *]))
    obtain ⟨N', hN'⟩ := own_end ⟨0, true, 24, 2, [[.int .i64 F, .lst (rows.map rRow)]]⟩ ⟨0, true, 24, 2, [[.int .i64 F, rv]]⟩ hown
    exact ⟨rv, N', _, rfl, by simpa using hN', hD.good⟩
  · rw [if_neg hq] at hz'
    obtain ⟨rfl, hT4, hT5⟩ := hz'
    simp only [hT4, hT5, hbox, fn_eq, evR, Nat.reduceAdd, Nat.reduceLT, Nat.reduceLeDiff, reduceIte, Nat.reduceEqDiff, reduceCtorEq, argEnv, eq_self, if_true, if_false]
    repeat' (first | (rw [guardK_cases]; split <;> simp only [hT4, hT5, hbox, evR, Nat.reduceAdd, Nat.reduceLT, Nat.reduceLeDiff, reduceIte, Nat.reduceEqDiff, reduceCtorEq, argEnv, eq_self, if_true, if_false, *]) | (rw [condK_bool]; split <;> simp only [hT4, hT5, hbox, evR, Nat.reduceAdd, Nat.reduceLT, Nat.reduceLeDiff, reduceIte, Nat.reduceEqDiff, reduceCtorEq, argEnv, eq_self, if_true, if_false, *]))
    obtain ⟨N', hN'⟩ := own_end ⟨0, true, 24, 2, [[.int .i64 F, .lst (rows.map rRow)]]⟩ ⟨0, true, 24, 2, [[.int .i64 F, rv]]⟩ hown
    exact ⟨rv, N', _, rfl, by simpa using hN', hD.good⟩
end Go.Proofs.Ytehcdcnghcbimaa.Code

/- The document's Stands; keys that rise stand apart. -/
set_option linter.unusedSimpArgs false
set_option linter.unusedVariables false
namespace Go.Proofs.Ytehcdcnghcbimaa.Code
open Go.Proofs.Ytehcdcnghcbimaa.Ev

theorem less_trans : ∀ x y z : List UInt8, Op.bytesLess x y = true → Op.bytesLess y z = true → Op.bytesLess x z = true
  | [], [], _, h, _ => by simp [Op.bytesLess] at h
  | [], _ :: _, [], _, h => by simp [Op.bytesLess] at h
  | [], _ :: _, _ :: _, _, _ => by simp [Op.bytesLess]
  | _ :: _, [], _, h, _ => by simp [Op.bytesLess] at h
  | _ :: _, _ :: _, [], _, h => by simp [Op.bytesLess] at h
  | a :: x, b :: y, c :: z, h1, h2 => by
    simp only [Op.bytesLess, Bool.or_eq_true, decide_eq_true_eq, Bool.and_eq_true, beq_iff_eq] at h1 h2 ⊢
    rcases h1 with h1 | ⟨rfl, h1⟩
    · rcases h2 with h2 | ⟨rfl, h2⟩
      · exact .inl (UInt8.lt_trans h1 h2)
      · exact .inl h1
    · rcases h2 with h2 | ⟨rfl, h2⟩
      · exact .inl h2
      · exact .inr ⟨rfl, less_trans x y z h1 h2⟩
theorem bLt_trans {s t u : ByteArray} (h1 : bLt s t = true) (h2 : bLt t u = true) : bLt s u = true := less_trans _ _ _ h1 h2
theorem asked_apart {F : Int} {rows : List Row} {us : List (List Fld)} (h : asked (F, rows) us = 0) : Apart rows := by
  have hv : valid (F, rows) = true := by
    cases hv : valid (F, rows) with
    | true => rfl
    | false => simp [asked, hv] at h
  simp only [valid, Bool.and_eq_true, decide_eq_true_eq] at hv
  have h4 := tell_true.1 hv.2
  have step : ∀ (i : Nat) (r r' : Row), rows[i]? = some r → rows[i + 1]? = some r' → bLt r.1 r'.1 = true := fun i r r' hr hr' => by
    have := h4 (i + 1) r' hr'
    simp only [rowOk, Bool.and_eq_true, Bool.or_eq_true, decide_eq_true_eq] at this
    rcases this.1.1.2 with h | h
    · omega
    · simpa [keyAt, hr] using h
  have far : ∀ (d i : Nat) (r r' : Row), rows[i]? = some r → rows[i + 1 + d]? = some r' → bLt r.1 r'.1 = true := by
    intro d
    induction d with
    | zero => exact fun i r r' => step i r r'
    | succ d ih =>
      intro i r r' hr hr'
      have hlt := (List.getElem?_eq_some_iff.1 hr').1
      obtain ⟨m, hm⟩ : ∃ m, rows[i + 1 + d]? = some m := ⟨_, List.getElem?_eq_getElem (by omega)⟩
      exact bLt_trans (ih i r m hr hm) (step (i + 1 + d) m r' hm (by rw [show i + 1 + d + 1 = i + 1 + (d + 1) by omega]; exact hr'))
  intro i j r r' hr hr' he
  rcases Nat.lt_trichotomy i j with hij | hij | hij
  · have := far (j - i - 1) i r r' hr (by rw [show i + 1 + (j - i - 1) = j by omega]; exact hr')
    rw [he, bLt_irrefl] at this; cases this
  · exact hij
  · have := far (i - j - 1) j r' r hr' (by rw [show j + 1 + (i - j - 1) = i by omega]; exact hr)
    rw [he, bLt_irrefl] at this; cases this
theorem f13 (F : Int) (rows : List Row) (hl : rows.length < 9223372036854775807) (hvl : ∀ r ∈ rows, r.2.length < 9223372036854775807) (l : List Fld) (hu : l.length < 9223372036854775807) (H : Heap) :
    cal (evC cprog) false 13 [.agg [.int .i64 F, .lst (rows.map rRow)], eUnit l] H = some (.tup [.int .i64 (stands F rows l).1, .int .i64 (stands F rows l).2], H) := by
  have h45 := fun X => f45 F rows hl hvl _ (H ++ X) (.lst _ rows) l hu
  rw [cal_of at13]
  by_cases ha : asked (F, rows) [l] = 0
  · obtain ⟨hG, hv, hl'⟩ := asked_good ha
    obtain ⟨rv, N, H', h46, hO, _⟩ := f46 F rows hl' hv hG (asked_apart ha) l hu (H ++ [⟨0, true, 24, 2, [[.int .i64 F, .lst (rows.map rRow)]]⟩])
    obtain ⟨G, rfl⟩ := hO.split
    simp only [ha] at h45
    simp only [List.append_assoc, List.cons_append, List.nil_append] at h46
    have hs : stands F rows l = ((runUnit F rows l).1, 0) := by simp [stands, ha]
    rw [hs]
    simp only [c13, h45, h46, fn_eq, evR, Nat.reduceAdd, Nat.reduceLT, Nat.reduceLeDiff, reduceIte, Nat.reduceEqDiff, reduceCtorEq, argEnv, eq_self, if_true, if_false]
    repeat' (first | (rw [guardK_cases]; split <;> simp only [c13, h45, h46, evR, Nat.reduceAdd, Nat.reduceLT, Nat.reduceLeDiff, reduceIte, Nat.reduceEqDiff, reduceCtorEq, argEnv, eq_self, if_true, if_false, *]) | (rw [condK_bool]; split <;> simp only [c13, h45, h46, evR, Nat.reduceAdd, Nat.reduceLT, Nat.reduceLeDiff, reduceIte, Nat.reduceEqDiff, reduceCtorEq, argEnv, eq_self, if_true, if_false, *]))
  · have hs : stands F rows l = (0, asked (F, rows) [l]) := by simp [stands, ha]
    rw [hs]
    simp only [c13, h45, ha, fn_eq, evR, Nat.reduceAdd, Nat.reduceLT, Nat.reduceLeDiff, reduceIte, Nat.reduceEqDiff, reduceCtorEq, argEnv, eq_self, if_true, if_false]
    repeat' (first | (rw [guardK_cases]; split <;> simp only [c13, h45, ha, evR, Nat.reduceAdd, Nat.reduceLT, Nat.reduceLeDiff, reduceIte, Nat.reduceEqDiff, reduceCtorEq, argEnv, eq_self, if_true, if_false, *]) | (rw [condK_bool]; split <;> simp only [c13, h45, ha, evR, Nat.reduceAdd, Nat.reduceLT, Nat.reduceLeDiff, reduceIte, Nat.reduceEqDiff, reduceCtorEq, argEnv, eq_self, if_true, if_false, *]))
end Go.Proofs.Ytehcdcnghcbimaa.Code

/- fast: what a frozen table is. -/
set_option linter.unusedSimpArgs false
set_option linter.unusedVariables false
namespace Go.Proofs.Ytehcdcnghcbimaa.Code
open Go.Proofs.Ytehcdcnghcbimaa.Ev

theorem kill_take (n : Nat) : ∀ (ids : List Nat) (H : Heap), (∀ b ∈ ids, n ≤ b) → (kill H ids).take n = H.take n
  | [], H, _ => rfl
  | b :: ids, H, h => by
    rw [kill, kill_take n ids _ fun c hc => h c (List.mem_cons_of_mem _ hc)]
    have hb := h b (List.mem_cons_self ..)
    split
    · rw [List.take_set_of_le hb]
    · rfl
def fzK (b : Nat) (r : Option (List (List AV) × List Nat)) : Option (AV × List Nat) :=
  match r with
  | some (l, ids) => some (.lst l, b :: ids)
  | none => none
theorem fz_ref {H : Heap} {n b v sz off len : Nat} {k : Blk} (hk : curBlk H b v sz = some k) : fz H (n + 1) (.ref b v sz off (len + 1)) = fzK b (fzRows (fz H n) ((k.els.drop off).take (len + 1))) := by
  show (match curBlk H b v sz with
    | some k => match fzRows (fz H n) ((k.els.drop off).take (len + 1)) with
      | some (l, ids) => some (AV.lst l, b :: ids)
      | none => none
    | none => none) = _
  rw [hk]; rfl
theorem fz_int (H : Heap) (n : Nat) (k : IntKind) (x : Int) : fz H (n + 1) (.int k x) = some (.int k x, []) := rfl
theorem fzRows_ints (H : Heap) (n : Nat) : ∀ l : List Int, fzRows (fz H (n + 1)) (l.map fun x => [.int .i64 x]) = some (l.map fun x => [.int .i64 x], [])
  | [] => rfl
  | x :: l => by
    simp only [List.map_cons, fzRows, fzCells, fz_int, fzRows_ints H n l, List.append_nil]
theorem fz_vals {H : Heap} {n b v : Nat} {k : Blk} {l : List Int} (hne : l ≠ []) (hk : curBlk H b v 1 = some k) (he : ∀ (j : Nat) (x : Int), l[j]? = some x → k.els[j]? = some [.int .i64 x]) :
    fz H (n + 2) (.ref b v 1 0 l.length) = some (eInts l, [b]) := by
  obtain ⟨m, hm⟩ : ∃ m, l.length = m + 1 := ⟨l.length - 1, by have := List.length_pos_iff.2 hne; omega⟩
  have ht : (k.els.drop 0).take (m + 1) = l.map fun x => [.int .i64 x] := by
    apply List.ext_getElem?
    intro j
    rw [List.drop_zero, List.getElem?_map]
    by_cases hj : j < l.length
    · obtain ⟨x, hx⟩ : ∃ x, l[j]? = some x := ⟨_, List.getElem?_eq_getElem hj⟩
      rw [List.getElem?_take_of_lt (by omega), he j x hx, hx]; rfl
    · rw [List.getElem?_eq_none (by simp; omega), List.getElem?_eq_none (by omega)]; rfl
  rw [hm, fz_ref hk, ht, fzRows_ints]
  rfl
theorem fz_rows {B N b v : Nat} {H : Heap} (n : Nat) : ∀ (rows : List Row) (vb : List (Nat × Nat)), rows.length = vb.length →
    (∀ (i : Nat) (r : Row) (w : Nat × Nat), rows[i]? = some r → vb[i]? = some w → r.2 ≠ [] ∧ ∃ k, curBlk H w.1 w.2 1 = some k ∧ ∀ (j : Nat) (n : Int), r.2[j]? = some n → k.els[j]? = some [.int .i64 n]) →
    fzRows (fz H (n + 2)) (List.zipWith (fun (r : Row) (w : Nat × Nat) => [AV.str r.1, AV.ref w.1 w.2 1 0 r.2.length]) rows vb) = some (rows.map rRow, vb.map (·.1))
  | [], [], _, _ => rfl
  | [], _ :: _, h, _ => by simp at h
  | _ :: _, [], h, _ => by simp at h
  | r :: rows, w :: vb, h, hr => by
    obtain ⟨hne, k, hk, he⟩ := hr 0 r w rfl rfl
    have h1 := fz_vals (n := n) hne hk he
    have h2 := fz_rows (B := B) (N := N) (b := b) (v := v) n rows vb (by simpa using h) fun i r w hr' hw' => hr (i + 1) r w (by simpa using hr') (by simpa using hw')
    have h3 : fz H (n + 2) (.str r.1) = some (.str r.1, []) := rfl
    simp only [List.zipWith_cons_cons, fzRows, fzCells, h1, h2, h3, List.map_cons, rRow, List.append_nil, List.nil_append, List.cons_append]
theorem fz_tab {H0 : Heap} {N : Nat} {rv : AV} {rows : List Row} {H : Heap} (h : Own H0 N rv rows H) (hv : ∀ r ∈ rows, r.2 ≠ []) : ∃ ids, fz H 8 rv = some (.lst (rows.map rRow), ids) ∧ ∀ b ∈ ids, H0.length ≤ b := by
  rcases h.tab with ⟨rfl, rfl | rfl⟩ | ⟨b, v, vb, rfl, hL⟩
  · exact ⟨[], rfl, by simp⟩
  · exact ⟨[], rfl, by simp⟩
  · obtain ⟨hb1, hb2, k, hk, hrow⟩ := hL.blk
    have hlen := hL.len
    cases hrows : rows with
    | nil => subst hrows; exact ⟨[], rfl, by simp⟩
    | cons r0 rs =>
      rw [← hrows]
      obtain ⟨m, hm⟩ : ∃ m, rows.length = m + 1 := ⟨rs.length, by rw [hrows]; rfl⟩
      have ht : (k.els.drop 0).take (m + 1) = List.zipWith (fun (r : Row) (w : Nat × Nat) => [AV.str r.1, AV.ref w.1 w.2 1 0 r.2.length]) rows vb := by
        apply List.ext_getElem?
        intro i
        rw [List.drop_zero, List.getElem?_zipWith]
        by_cases hi : i < rows.length
        · obtain ⟨r, hr⟩ : ∃ r, rows[i]? = some r := ⟨_, List.getElem?_eq_getElem hi⟩
          obtain ⟨w, hw⟩ : ∃ w, vb[i]? = some w := ⟨_, List.getElem?_eq_getElem (by omega)⟩
          rw [List.getElem?_take_of_lt (by omega), hrow i r w hr hw, hr, hw]
        · rw [List.getElem?_eq_none (by simp; omega), List.getElem?_eq_none (l := rows) (by omega)]
      have hz := fz_rows (B := 0) (N := 0) (b := 0) (v := 0) (H := H) 5 rows vb hlen.symm fun i r w hr hw => ⟨hv r (List.mem_of_getElem? hr), (hL.vals i r w hr hw).2.2.2⟩
      refine ⟨b :: vb.map (·.1), ?_, fun c hc => ?_⟩
      · rw [hm, fz_ref hk, ht, hz]
        rfl
      · rcases List.mem_cons.1 hc with rfl | hc
        · exact hb1
        · obtain ⟨w, hw, rfl⟩ := List.mem_map.1 hc
          obtain ⟨i, hi⟩ := List.getElem?_of_mem hw
          obtain ⟨r, hr⟩ : ∃ r, rows[i]? = some r := ⟨_, List.getElem?_eq_getElem (by have := (List.getElem?_eq_some_iff.1 hi).1; omega)⟩
          exact (hL.vals i r w hr hi).1
end Go.Proofs.Ytehcdcnghcbimaa.Code

/- fast: Sync of both, with a frozen table. -/
set_option linter.unusedSimpArgs false
set_option linter.unusedVariables false
namespace Go.Proofs.Ytehcdcnghcbimaa.Code
open Go.Proofs.Ytehcdcnghcbimaa.Ev

theorem calF_tab {H H1 : Heap} {N : Nat} {rv : AV} {rows : List Row} (F e : Int) (h : Own H N rv rows H1) (hv : ∀ r ∈ rows, r.2 ≠ []) :
    calK true H (some (.tup [.agg [.int .i64 F, rv], .int .i64 e], H1)) = some (.tup [eTab (F, rows), .int .i64 e], H) := by
  obtain ⟨ids, hf, hi⟩ := fz_tab h hv
  have h1 : fzRes H1 (.tup [.agg [.int .i64 F, rv], .int .i64 e]) = some (.tup [eTab (F, rows), .int .i64 e], ids) := by
    have e1 : fz1 H1 (.agg [.int .i64 F, rv]) = some (eTab (F, rows), ids) := by
      show (fzCells (fz H1 8) [.int .i64 F, rv]).map _ = _
      have e0 : fz H1 8 (.int .i64 F) = some (.int .i64 F, []) := rfl
      simp only [fzCells, e0, hf, Option.map_some, List.nil_append, List.append_nil]
      rfl
    have e2 : fz1 H1 (.int .i64 e) = some (.int .i64 e, []) := rfl
    show (fzCells (fz1 H1) [.agg [.int .i64 F, rv], .int .i64 e]).map _ = _
    simp only [fzCells, e1, e2, Option.map_some, List.append_nil]
  unfold calK
  simp only [if_true, h1]
  have h2 := kill_take H.length ids H1 hi
  rw [h.pre] at h2
  unfold gc
  rw [if_pos ⟨rfl, by rw [h2]; exact heq_refl H⟩]
theorem calF_nil (H G : Heap) (e : Int) : calK true H (some (.tup [.agg [.int .i64 0, .nils], .int .i64 e], H ++ G)) = some (.tup [eTab (0, []), .int .i64 e], H) :=
  calF_tab (N := H.length) 0 e ⟨by simp, ⟨by simp, by simp⟩, .inl ⟨rfl, .inr rfl⟩⟩ (by simp)
/-- what Sync answers -/
noncomputable def syncs (F : Int) (rows : List Row) (l : List Fld) : Table × Int :=
  if asked (F, rows) [l] = 0 then (if 0 ≤ (runUnit F rows l).1 then ((0, []), 212) else ((F, (runUnit F rows l).2), 0)) else ((0, []), asked (F, rows) [l])
theorem good_ne {F : Int} {rows rows' : List Row} {us : List (List Fld)} (ha : asked (F, rows) us = 0) (hG : GoodRows F rows') : ∀ r ∈ rows', r.2 ≠ [] := by
  have hv : valid (F, rows) = true := by
    cases hv : valid (F, rows) with
    | true => rfl
    | false => simp [asked, hv] at ha
  simp only [valid, Bool.and_eq_true, decide_eq_true_eq] at hv
  intro r hr e
  have := (hG r hr).1
  rw [e] at this
  simp at this
  omega
theorem f15 (F : Int) (rows : List Row) (hl : rows.length < 9223372036854775807) (hvl : ∀ r ∈ rows, r.2.length < 9223372036854775807) (l : List Fld) (hu : l.length < 9223372036854775807) (H : Heap) :
    cal (evC cprog) true 15 [.agg [.int .i64 F, .lst (rows.map rRow)], eUnit l] H = some (.tup [eTab (syncs F rows l).1, .int .i64 (syncs F rows l).2], H) := by
  have h45 := fun X => f45 F rows hl hvl _ (H ++ X) (.lst _ rows) l hu
  rw [cal_of at15]
  by_cases ha : asked (F, rows) [l] = 0
  · obtain ⟨hG, hv, hl'⟩ := asked_good ha
    obtain ⟨rv, N, H', h46, hO, hG'⟩ := f46 F rows hl' hv hG (asked_apart ha) l hu (H ++ [⟨0, true, 24, 2, [[.int .i64 F, .lst (rows.map rRow)]]⟩, ⟨0, true, 24, 2, [[.int .i64 0, .nils]]⟩])
    obtain ⟨G, rfl⟩ := hO.split
    simp only [ha] at h45
    simp only [List.append_assoc, List.cons_append, List.nil_append] at h46
    by_cases hq : 0 ≤ (runUnit F rows l).1
    · have hs : syncs F rows l = ((0, []), 212) := by simp [syncs, ha, hq]
      rw [hs]
      simp only [c15, h45, h46, hq, fn_eq, evR, Nat.reduceAdd, Nat.reduceLT, Nat.reduceLeDiff, reduceIte, Nat.reduceEqDiff, reduceCtorEq, argEnv, eq_self, if_true, if_false]
      repeat' (first | (rw [guardK_cases]; split <;> simp only [c15, h45, h46, hq, evR, Nat.reduceAdd, Nat.reduceLT, Nat.reduceLeDiff, reduceIte, Nat.reduceEqDiff, reduceCtorEq, argEnv, eq_self, if_true, if_false, *]) | (rw [condK_bool]; split <;> simp only [c15, h45, h46, hq, evR, Nat.reduceAdd, Nat.reduceLT, Nat.reduceLeDiff, reduceIte, Nat.reduceEqDiff, reduceCtorEq, argEnv, eq_self, if_true, if_false, *]))
      exact calF_nil H _ 212
    · have hs : syncs F rows l = ((F, (runUnit F rows l).2), 0) := by simp [syncs, ha, hq]
      rw [hs]
      simp only [c15, h45, h46, hq, fn_eq, evR, Nat.reduceAdd, Nat.reduceLT, Nat.reduceLeDiff, reduceIte, Nat.reduceEqDiff, reduceCtorEq, argEnv, eq_self, if_true, if_false]
      repeat' (first | (rw [guardK_cases]; split <;> simp only [c15, h45, h46, hq, evR, Nat.reduceAdd, Nat.reduceLT, Nat.reduceLeDiff, reduceIte, Nat.reduceEqDiff, reduceCtorEq, argEnv, eq_self, if_true, if_false, *]) | (rw [condK_bool]; split <;> simp only [c15, h45, h46, hq, evR, Nat.reduceAdd, Nat.reduceLT, Nat.reduceLeDiff, reduceIte, Nat.reduceEqDiff, reduceCtorEq, argEnv, eq_self, if_true, if_false, *]))
      have h := ((hO.swap (H1' := H ++ [⟨0, true, 24, 2, [[.int .i64 F, .lst (rows.map rRow)]]⟩, ⟨0, true, 24, 2, [[.int .i64 F, rv]]⟩]) (by simp)).weaken).app [⟨0, true, 24, 2, [[.int .i64 F, rv]]⟩]
      simp only [List.append_assoc, List.cons_append, List.nil_append] at h
      exact calF_tab F 0 h (good_ne ha hG')
  · have hs : syncs F rows l = ((0, []), asked (F, rows) [l]) := by simp [syncs, ha]
    rw [hs]
    simp only [c15, h45, ha, fn_eq, evR, Nat.reduceAdd, Nat.reduceLT, Nat.reduceLeDiff, reduceIte, Nat.reduceEqDiff, reduceCtorEq, argEnv, eq_self, if_true, if_false]
    repeat' (first | (rw [guardK_cases]; split <;> simp only [c15, h45, ha, evR, Nat.reduceAdd, Nat.reduceLT, Nat.reduceLeDiff, reduceIte, Nat.reduceEqDiff, reduceCtorEq, argEnv, eq_self, if_true, if_false, *]) | (rw [condK_bool]; split <;> simp only [c15, h45, ha, evR, Nat.reduceAdd, Nat.reduceLT, Nat.reduceLeDiff, reduceIte, Nat.reduceEqDiff, reduceCtorEq, argEnv, eq_self, if_true, if_false, *]))
    exact calF_nil H _ _
theorem f14 (F : Int) (rows : List Row) (hl : rows.length < 9223372036854775807) (hvl : ∀ r ∈ rows, r.2.length < 9223372036854775807) (l : List Fld) (hu : l.length < 9223372036854775807) (H : Heap) :
    cal (evC cprog) true 14 [.agg [.int .i64 F, .lst (rows.map rRow)], eUnit l] H = some (.tup [eTab (syncs F rows l).1, .int .i64 (syncs F rows l).2], H) := by
  have h43 := fun B B' => f43' F rows hl hvl l hu H [B, B']
  simp only [List.length_cons, List.length_nil, List.cons_append, List.nil_append, Nat.zero_add, Nat.reduceAdd] at h43
  rw [cal_of at14]
  by_cases ha : asked (F, rows) [l] = 0
  · obtain ⟨hG, hv, hl'⟩ := asked_good ha
    obtain ⟨rv, N, H', h44, hO, hG'⟩ := f44 F rows hl' hv hG l hu (H ++ [⟨0, true, 24, 2, [[.int .i64 F, .lst (rows.map rRow)]]⟩, ⟨0, true, 24, 2, [[.int .i64 0, .nils]]⟩, ⟨0, true, 25, 1, [[eUnit l]]⟩])
    obtain ⟨G, rfl⟩ := hO.split
    simp only [ha] at h43
    simp only [List.append_assoc, List.cons_append, List.nil_append] at h44
    by_cases hq : 0 ≤ (runUnit F rows l).1
    · have hs : syncs F rows l = ((0, []), 212) := by simp [syncs, ha, hq]
      rw [hs]
      simp only [c14, cells_unit, isTup_unit, h43, h44, hq, fn_eq, evR, Nat.reduceAdd, Nat.reduceLT, Nat.reduceLeDiff, reduceIte, Nat.reduceEqDiff, reduceCtorEq, argEnv, eq_self, if_true, if_false]
      repeat' (first | (rw [guardK_cases]; split <;> simp only [c14, cells_unit, isTup_unit, h43, h44, hq, evR, Nat.reduceAdd, Nat.reduceLT, Nat.reduceLeDiff, reduceIte, Nat.reduceEqDiff, reduceCtorEq, argEnv, eq_self, if_true, if_false, *]) | (rw [condK_bool]; split <;> simp only [c14, cells_unit, isTup_unit, h43, h44, hq, evR, Nat.reduceAdd, Nat.reduceLT, Nat.reduceLeDiff, reduceIte, Nat.reduceEqDiff, reduceCtorEq, argEnv, eq_self, if_true, if_false, *]))
      exact calF_nil H _ 212
    · have hs : syncs F rows l = ((F, (runUnit F rows l).2), 0) := by simp [syncs, ha, hq]
      rw [hs]
      simp only [c14, cells_unit, isTup_unit, h43, h44, hq, fn_eq, evR, Nat.reduceAdd, Nat.reduceLT, Nat.reduceLeDiff, reduceIte, Nat.reduceEqDiff, reduceCtorEq, argEnv, eq_self, if_true, if_false]
      repeat' (first | (rw [guardK_cases]; split <;> simp only [c14, cells_unit, isTup_unit, h43, h44, hq, evR, Nat.reduceAdd, Nat.reduceLT, Nat.reduceLeDiff, reduceIte, Nat.reduceEqDiff, reduceCtorEq, argEnv, eq_self, if_true, if_false, *]) | (rw [condK_bool]; split <;> simp only [c14, cells_unit, isTup_unit, h43, h44, hq, evR, Nat.reduceAdd, Nat.reduceLT, Nat.reduceLeDiff, reduceIte, Nat.reduceEqDiff, reduceCtorEq, argEnv, eq_self, if_true, if_false, *]))
      have h := ((hO.swap (H1' := H ++ [⟨0, true, 24, 2, [[.int .i64 F, .lst (rows.map rRow)]]⟩, ⟨0, true, 24, 2, [[.int .i64 F, rv]]⟩, ⟨0, true, 25, 1, [[eUnit l]]⟩]) (by simp)).weaken).app [⟨0, true, 24, 2, [[.int .i64 F, rv]]⟩]
      simp only [List.append_assoc, List.cons_append, List.nil_append] at h
      exact calF_tab F 0 h (good_ne ha hG')
  · have hs : syncs F rows l = ((0, []), asked (F, rows) [l]) := by simp [syncs, ha]
    rw [hs]
    simp only [c14, cells_unit, isTup_unit, h43, ha, fn_eq, evR, Nat.reduceAdd, Nat.reduceLT, Nat.reduceLeDiff, reduceIte, Nat.reduceEqDiff, reduceCtorEq, argEnv, eq_self, if_true, if_false]
    repeat' (first | (rw [guardK_cases]; split <;> simp only [c14, cells_unit, isTup_unit, h43, ha, evR, Nat.reduceAdd, Nat.reduceLT, Nat.reduceLeDiff, reduceIte, Nat.reduceEqDiff, reduceCtorEq, argEnv, eq_self, if_true, if_false, *]) | (rw [condK_bool]; split <;> simp only [c14, cells_unit, isTup_unit, h43, ha, evR, Nat.reduceAdd, Nat.reduceLT, Nat.reduceLeDiff, reduceIte, Nat.reduceEqDiff, reduceCtorEq, argEnv, eq_self, if_true, if_false, *]))
    exact calF_nil H _ _
end Go.Proofs.Ytehcdcnghcbimaa.Code

/- fast: First, closed. -/
set_option linter.unusedSimpArgs false
set_option linter.unusedVariables false
namespace Go.Proofs.Ytehcdcnghcbimaa.Code
open Go.Proofs.Ytehcdcnghcbimaa.Ev

theorem first_run : evCall cprog 100 11 [] [] = some (.bool true, []) := by kernel_rfl
theorem closed_any {call it} {c : CFn} {b : Bool} (hc : c.closed = true) (h : evFn call it c [] [] = some (.bool b, [])) (H : Heap) : evFn call it c [] H = some (.bool b, H) := by
  unfold evFn at h ⊢
  rw [if_pos hc] at h ⊢
  simp only at h ⊢
  split at h
  · cases h; rfl
  · cases h
theorem f11 (H : Heap) : cal (evC cprog) false 11 [] H = some (.bool true, H) := by
  have h := evC_of first_run
  rw [evC_fn at11] at h
  rw [cal_of at11, closed_any rfl h H, calK_f, gc_same]
end Go.Proofs.Ytehcdcnghcbimaa.Code

/- The law FastSyncs: what the evaluator answers. -/
set_option linter.unusedSimpArgs false
set_option linter.unusedVariables false
namespace Go.Proofs.Ytehcdcnghcbimaa.Code
open Go.Proofs.Ytehcdcnghcbimaa.Ev Go.RowKit

theorem typed {α : Type} {P : List AV → Prop} {enc : α → List AV} {Q : α → Prop} (h : ∀ r, P r → ∃ x, r = enc x ∧ Q x) : ∀ l : List (List AV), (∀ r ∈ l, P r) → ∃ xs : List α, l = xs.map enc ∧ ∀ x ∈ xs, Q x
  | [], _ => ⟨[], rfl, by simp⟩
  | r :: l, hl => by
    obtain ⟨x, rfl, hx⟩ := h r (hl r (List.mem_cons_self ..))
    obtain ⟨xs, rfl, hxs⟩ := typed h l fun r hr => hl r (List.mem_cons_of_mem _ hr)
    exact ⟨x :: xs, rfl, fun y hy => by (rcases List.mem_cons.1 hy with rfl | hy; exact hx; exact hxs y hy)⟩
theorem open_int {r : List AV} (h : HasL [.int .i64] r) : ∃ n : Int, r = [.int .i64 n] ∧ True := by
  simp only [HasL, Has] at h
  obtain ⟨x, xs, rfl, ⟨n, rfl, _⟩, rfl⟩ := h
  exact ⟨n, rfl, trivial⟩
theorem open_row {r : List AV} (h : HasL [.str, .sl [.int .i64]] r) : ∃ x : Row, r = rRow x ∧ x.2.length ≤ reachBytes := by
  simp only [HasL.eq_2, HasL.eq_1, Has] at h
  obtain ⟨x, xs, rfl, ⟨s, rfl, _⟩, y, ys, rfl, ⟨l, rfl, hl, hr⟩, rfl⟩ := h
  obtain ⟨ns, rfl, _⟩ := typed (fun r h => open_int h) l hr
  exact ⟨(s, ns), rfl, by simpa using hl⟩
theorem open_table {a : AV} (h : ArgTy true [.int .i64, .sl [.str, .sl [.int .i64]]] a) : ∃ (F : Int) (rows : List Row), a = .agg [.int .i64 F, .lst (rows.map rRow)] ∧ rows.length ≤ reachBytes ∧ ∀ r ∈ rows, r.2.length ≤ reachBytes := by
  obtain ⟨bs, rfl, h⟩ := h
  simp only [HasL.eq_2, HasL.eq_1, Has] at h
  obtain ⟨x, xs, rfl, ⟨F, rfl, _⟩, y, ys, rfl, ⟨l, rfl, hl, hr⟩, rfl⟩ := h
  obtain ⟨rows, rfl, hq⟩ := typed (P := HasL [.str, .sl [.int .i64]]) (fun r h => open_row h) l (fun r h => by simpa only [HasL.eq_2, HasL.eq_1, Has] using hr r h)
  exact ⟨F, rows, rfl, by simpa using hl, hq⟩
theorem open_fld {r : List AV} (h : HasL [.str, .int .i64, .str, .int .i64] r) : ∃ x : Fld, r = rFld x ∧ True := by
  simp only [HasL.eq_2, HasL.eq_1, Has] at h
  obtain ⟨x, xs, rfl, ⟨s, rfl, _⟩, y, ys, rfl, ⟨f, rfl, _⟩, z, zs, rfl, ⟨o, rfl, _⟩, w, ws, rfl, ⟨n, rfl, _⟩, rfl⟩ := h
  exact ⟨⟨s, f, o, n⟩, rfl, trivial⟩
theorem open_unit {a : AV} (h : ArgTy false [.sl [.str, .int .i64, .str, .int .i64]] a) : ∃ (l : List Fld), a = eUnit l ∧ l.length ≤ reachBytes := by
  have h : HasL [.sl [.str, .int .i64, .str, .int .i64]] [a] := h
  simp only [HasL.eq_2, HasL.eq_1, Has] at h
  obtain ⟨x, xs, he, ⟨l, rfl, hl, hr⟩, rfl⟩ := h
  cases he
  obtain ⟨us, rfl, _⟩ := typed (P := HasL [.str, .int .i64, .str, .int .i64]) (fun r h => open_fld h) l (fun r h => by simpa only [HasL.eq_2, HasL.eq_1, Has] using hr r h)
  exact ⟨us, rfl, by simpa using hl⟩
end Go.Proofs.Ytehcdcnghcbimaa.Code

/- The law FastSyncs is true. -/
set_option linter.unusedSimpArgs false
set_option linter.unusedVariables false
namespace Go.Proofs.Ytehcdcnghcbimaa.Code
open Go.Proofs.Ytehcdcnghcbimaa.Ev

theorem cells_tab (t : Table) : (eTab t).cells = [.int .i64 t.1, .lst (t.2.map rRow)] := rfl
theorem isTup_tab (t : Table) : (eTab t).isTup = false := rfl
theorem runIdx_inv {F : Int} (P : List Row → Prop) (hP : ∀ rows c, P rows → P (after F rows c)) : ∀ (l : List Fld) (rows : List Row) (k : Nat), P rows → P (runIdx (bad F) (after F) rows l k).2
  | [], rows, k, h => h
  | c :: l, rows, k, h => by
    rw [runIdx]
    split
    · exact hP rows c h
    · exact runIdx_inv P hP l _ _ (hP rows c h)
theorem syncs_small (F : Int) (rows : List Row) (l : List Fld) : (syncs F rows l).1.2.length < 9223372036854775807 ∧ ∀ r ∈ (syncs F rows l).1.2, r.2.length < 9223372036854775807 := by
  unfold syncs
  split
  · rename_i ha
    obtain ⟨hG, hv, hl⟩ := asked_good ha
    split
    · simp
    · have h1 := runIdx_inv (F := F) (fun r => r.length = rows.length) (fun r c h => by rw [after, length_doOne]; exact h) l rows 0 rfl
      have h2 := runIdx_inv (F := F) (fun r => GoodRows F r) (fun r c h => h.doOne c) l rows 0 hG
      refine ⟨by show (runUnit F rows l).2.length < _; unfold runUnit; omega, fun r hr => ?_⟩
      have := (h2 r hr).1
      have hv : valid (F, rows) = true := by
        cases hv : valid (F, rows) with
        | true => rfl
        | false => simp [asked, hv] at ha
      simp only [valid, Bool.and_eq_true, decide_eq_true_eq] at hv
      omega
  · simp
theorem f3 (F : Int) (rows : List Row) (hl : rows.length < 9223372036854775807) (hvl : ∀ r ∈ rows, r.2.length < 9223372036854775807) (l : List Fld) (hu : l.length < 9223372036854775807) :
    ∃ H', evC cprog 3 [.agg [.int .i64 F, .lst (rows.map rRow)], eUnit l] [] = some (.bool true, H') := by
  have h10 := fun H => f10 F rows hl _ H (.lst H rows)
  have h12 := fun H => f12 F rows hl hvl l hu H false
  have h13 := f13 F rows hl hvl l hu
  have h14 := f14 F rows hl hvl l hu
  have h15 := f15 F rows hl hvl l hu
  have h16 := fun H => f16 F rows hl hvl _ H (.lst H rows)
  have h17 := fun H => f17 F rows hl hvl _ H (.lst H rows)
  have h18 := f18 l hu
  have h19 := f19 l hu
  have h11 := f11
  have hlen := (sUnit [] l).len
  simp only [List.length_map] at hlen
  have hs2 := syncs_small F rows l
  have h20 := fun H => f20 (syncs F rows l).1.1 (syncs F rows l).1.1 (syncs F rows l).1.2 (syncs F rows l).1.2 _ _ H (.lst H _) (.lst H _) hs2.1 hs2.2
  rw [tell_pos ⟨rfl, rfl⟩] at h20
  rw [evC_fn at3]
  simp only [c3, h10, h11, h12, h13, h14, h15, h16, h17, h18, h19, h20, hlen, cells_tab, isTup_tab, beq_self_eq_true, evW, fn_eq, evR, Nat.reduceAdd, Nat.reduceLT, Nat.reduceLeDiff, reduceIte, Nat.reduceEqDiff, reduceCtorEq, argEnv, eq_self, if_true, if_false]
  repeat' (first | (rw [guardK_cases]; split <;> simp only [c3, h10, h11, h12, h13, h14, h15, h16, h17, h18, h19, h20, hlen, cells_tab, isTup_tab, beq_self_eq_true, evW, evR, Nat.reduceAdd, Nat.reduceLT, Nat.reduceLeDiff, reduceIte, Nat.reduceEqDiff, reduceCtorEq, argEnv, eq_self, if_true, if_false, *]) | (rw [condK_bool]; split <;> simp only [c3, h10, h11, h12, h13, h14, h15, h16, h17, h18, h19, h20, hlen, cells_tab, isTup_tab, beq_self_eq_true, evW, evR, Nat.reduceAdd, Nat.reduceLT, Nat.reduceLeDiff, reduceIte, Nat.reduceEqDiff, reduceCtorEq, argEnv, eq_self, if_true, if_false, *]) | (rw [guardD_cases]; split <;> simp only [c3, h10, h11, h12, h13, h14, h15, h16, h17, h18, h19, h20, hlen, cells_tab, isTup_tab, beq_self_eq_true, evW, evR, Nat.reduceAdd, Nat.reduceLT, Nat.reduceLeDiff, reduceIte, Nat.reduceEqDiff, reduceCtorEq, argEnv, eq_self, if_true, if_false, *]))
  all_goals exact ⟨_, rfl⟩
end Go.Proofs.Ytehcdcnghcbimaa.Code
namespace Go.Proofs.Ytehcdcnghcbimaa.Pure
open Go.Proofs.Ytehcdcnghcbimaa.Ev Go.Proofs.Ytehcdcnghcbimaa.Code
theorem FastSyncs (a0 : AV) (t0 : ArgTy true [.int .i64, .sl [.str, .sl [.int .i64]]] a0) (a1 : AV) (t1 : ArgTy false [.sl [.str, .int .i64, .str, .int .i64]] a1) : ∃ H', evC cprog 3 [a0, a1] [] = some (.bool true, H') := by
  obtain ⟨F, rows, rfl, h1, h2⟩ := open_table t0
  obtain ⟨l, rfl, h3⟩ := open_unit t1
  unfold reachBytes at h1 h2 h3
  exact f3 F rows (by omega) (fun r hr => by have := h2 r hr; omega) l (by omega)
end Go.Proofs.Ytehcdcnghcbimaa.Pure

/- The status of a call behind a unit: the program's and the document's, and the law FastCalls. -/
set_option linter.unusedSimpArgs false
set_option linter.unusedVariables false
namespace Go.Proofs.Ytehcdcnghcbimaa.Code
open Go.Proofs.Ytehcdcnghcbimaa.Ev

def sFE : ByteArray := ⟨#[70, 69]⟩
/-- what Call answers -/
noncomputable def calls (F : Int) (rows : List Row) (l : List Fld) (c : Fld) : ByteArray × Int :=
  if asked (F, rows) [l] = 0 then (if 0 ≤ (runUnit F rows l).1 then (sFE, 0) else ((doOne F (runUnit F rows l).2 c).1, 0)) else (⟨#[]⟩, asked (F, rows) [l])
theorem run_apart (F : Int) {rows : List Row} (h : Apart rows) (l : List Fld) : Apart (runUnit F rows l).2 := runIdx_inv (F := F) Apart (fun r c h => h.doOne c) l rows 0 h
theorem run_len (F : Int) (rows : List Row) (l : List Fld) : (runUnit F rows l).2.length = rows.length := runIdx_inv (F := F) (fun r => r.length = rows.length) (fun r c h => by rw [after, length_doOne]; exact h) l rows 0 rfl
theorem f22 (F : Int) (rows : List Row) (hl : rows.length < 9223372036854775807) (hvl : ∀ r ∈ rows, r.2.length < 9223372036854775807) (l : List Fld) (hu : l.length < 9223372036854775807) (c : Fld) (H : Heap) :
    cal (evC cprog) false 22 [.agg [.int .i64 F, .lst (rows.map rRow)], eUnit l, .agg (rFld c)] H = some (.tup [.str (calls F rows l c).1, .int .i64 (calls F rows l c).2], H) := by
  have h45 := fun X => f45 F rows hl hvl _ (H ++ X) (.lst _ rows) l hu
  rw [cal_of at22]
  by_cases ha : asked (F, rows) [l] = 0
  · obtain ⟨hG, hv, hl'⟩ := asked_good ha
    obtain ⟨rv, N, H', h46, hO, hG'⟩ := f46 F rows hl' hv hG (asked_apart ha) l hu (H ++ [⟨0, true, 24, 2, [[.int .i64 F, .lst (rows.map rRow)]]⟩, ⟨0, true, 37, 4, [rFld c]⟩])
    obtain ⟨G, rfl⟩ := hO.split
    simp only [ha] at h45
    simp only [List.append_assoc, List.cons_append, List.nil_append] at h46
    by_cases hq : 0 ≤ (runUnit F rows l).1
    · have hs : calls F rows l c = (sFE, 0) := by simp [calls, ha, hq]
      rw [hs]
      simp only [rFld] at h46
      simp only [c22, rFld, h45, h46, hq, fn_eq, evR, Nat.reduceAdd, Nat.reduceLT, Nat.reduceLeDiff, reduceIte, Nat.reduceEqDiff, reduceCtorEq, argEnv, eq_self, if_true, if_false]
      repeat' (first | (rw [guardK_cases]; split <;> simp only [c22, rFld, h45, h46, hq, evR, Nat.reduceAdd, Nat.reduceLT, Nat.reduceLeDiff, reduceIte, Nat.reduceEqDiff, reduceCtorEq, argEnv, eq_self, if_true, if_false, *]) | (rw [condK_bool]; split <;> simp only [c22, rFld, h45, h46, hq, evR, Nat.reduceAdd, Nat.reduceLT, Nat.reduceLeDiff, reduceIte, Nat.reduceEqDiff, reduceCtorEq, argEnv, eq_self, if_true, if_false, *]))
      rfl
    · have hs : calls F rows l c = ((doOne F (runUnit F rows l).2 c).1, 0) := by simp [calls, ha, hq]
      rw [hs]
      obtain ⟨H1, h57, hO1, _⟩ := f57 (hO.app [⟨0, true, 24, 2, [[.int .i64 F, rv]]⟩]) (F := F) (by rw [run_len]; exact hl) (fun r hr => (hG' r hr).1) (fun r hr => (hG' r hr).2) (run_apart F (asked_apart ha) l) c
      obtain ⟨G1, rfl⟩ := hO1.split
      simp only [rFld] at h46
      simp only [rFld, List.append_assoc, List.cons_append, List.nil_append] at h57
      simp only [c22, rFld, h45, h46, hq, h57, fn_eq, evR, Nat.reduceAdd, Nat.reduceLT, Nat.reduceLeDiff, reduceIte, Nat.reduceEqDiff, reduceCtorEq, argEnv, eq_self, if_true, if_false]
      repeat' (first | (rw [guardK_cases]; split <;> simp only [c22, rFld, h45, h46, hq, h57, evR, Nat.reduceAdd, Nat.reduceLT, Nat.reduceLeDiff, reduceIte, Nat.reduceEqDiff, reduceCtorEq, argEnv, eq_self, if_true, if_false, *]) | (rw [condK_bool]; split <;> simp only [c22, rFld, h45, h46, hq, h57, evR, Nat.reduceAdd, Nat.reduceLT, Nat.reduceLeDiff, reduceIte, Nat.reduceEqDiff, reduceCtorEq, argEnv, eq_self, if_true, if_false, *]))
  · have hs : calls F rows l c = (⟨#[]⟩, asked (F, rows) [l]) := by simp [calls, ha]
    rw [hs]
    simp only [c22, rFld, h45, ha, fn_eq, evR, Nat.reduceAdd, Nat.reduceLT, Nat.reduceLeDiff, reduceIte, Nat.reduceEqDiff, reduceCtorEq, argEnv, eq_self, if_true, if_false]
    repeat' (first | (rw [guardK_cases]; split <;> simp only [c22, rFld, h45, ha, evR, Nat.reduceAdd, Nat.reduceLT, Nat.reduceLeDiff, reduceIte, Nat.reduceEqDiff, reduceCtorEq, argEnv, eq_self, if_true, if_false, *]) | (rw [condK_bool]; split <;> simp only [c22, rFld, h45, ha, evR, Nat.reduceAdd, Nat.reduceLT, Nat.reduceLeDiff, reduceIte, Nat.reduceEqDiff, reduceCtorEq, argEnv, eq_self, if_true, if_false, *]))
theorem f21 (F : Int) (rows : List Row) (hl : rows.length < 9223372036854775807) (hvl : ∀ r ∈ rows, r.2.length < 9223372036854775807) (l : List Fld) (hu : l.length < 9223372036854775807) (c : Fld) (H : Heap) :
    cal (evC cprog) false 21 [.agg [.int .i64 F, .lst (rows.map rRow)], eUnit l, .agg (rFld c)] H = some (.tup [.str (calls F rows l c).1, .int .i64 (calls F rows l c).2], H) := by
  have h43 := fun B B' => f43' F rows hl hvl l hu H [B, B']
  simp only [List.length_cons, List.length_nil, List.cons_append, List.nil_append, Nat.zero_add, Nat.reduceAdd] at h43
  rw [cal_of at21]
  by_cases ha : asked (F, rows) [l] = 0
  · obtain ⟨hG, hv, hl'⟩ := asked_good ha
    obtain ⟨rv, N, H', h44, hO, hG'⟩ := f44 F rows hl' hv hG l hu (H ++ [⟨0, true, 24, 2, [[.int .i64 F, .lst (rows.map rRow)]]⟩, ⟨0, true, 37, 4, [rFld c]⟩, ⟨0, true, 25, 1, [[eUnit l]]⟩])
    obtain ⟨G, rfl⟩ := hO.split
    simp only [ha] at h43
    simp only [List.append_assoc, List.cons_append, List.nil_append] at h44
    by_cases hq : 0 ≤ (runUnit F rows l).1
    · have hs : calls F rows l c = (sFE, 0) := by simp [calls, ha, hq]
      rw [hs]
      simp only [rFld] at h44
      simp only [c21, rFld, cells_unit, isTup_unit, h43, h44, hq, fn_eq, evR, Nat.reduceAdd, Nat.reduceLT, Nat.reduceLeDiff, reduceIte, Nat.reduceEqDiff, reduceCtorEq, argEnv, eq_self, if_true, if_false]
      repeat' (first | (rw [guardK_cases]; split <;> simp only [c21, rFld, cells_unit, isTup_unit, h43, h44, hq, evR, Nat.reduceAdd, Nat.reduceLT, Nat.reduceLeDiff, reduceIte, Nat.reduceEqDiff, reduceCtorEq, argEnv, eq_self, if_true, if_false, *]) | (rw [condK_bool]; split <;> simp only [c21, rFld, cells_unit, isTup_unit, h43, h44, hq, evR, Nat.reduceAdd, Nat.reduceLT, Nat.reduceLeDiff, reduceIte, Nat.reduceEqDiff, reduceCtorEq, argEnv, eq_self, if_true, if_false, *]))
      rfl
    · have hs : calls F rows l c = ((doOne F (runUnit F rows l).2 c).1, 0) := by simp [calls, ha, hq]
      rw [hs]
      obtain ⟨H1, h56, hO1, _⟩ := f56 (hO.app [⟨0, true, 24, 2, [[.int .i64 F, rv]]⟩]) (F := F) (by rw [run_len]; exact hl) (fun r hr => (hG' r hr).1) (fun r hr => (hG' r hr).2) c
      obtain ⟨G1, rfl⟩ := hO1.split
      simp only [rFld] at h44
      simp only [rFld, List.append_assoc, List.cons_append, List.nil_append] at h56
      simp only [c21, rFld, cells_unit, isTup_unit, h43, h44, hq, h56, fn_eq, evR, Nat.reduceAdd, Nat.reduceLT, Nat.reduceLeDiff, reduceIte, Nat.reduceEqDiff, reduceCtorEq, argEnv, eq_self, if_true, if_false]
      repeat' (first | (rw [guardK_cases]; split <;> simp only [c21, rFld, cells_unit, isTup_unit, h43, h44, hq, h56, evR, Nat.reduceAdd, Nat.reduceLT, Nat.reduceLeDiff, reduceIte, Nat.reduceEqDiff, reduceCtorEq, argEnv, eq_self, if_true, if_false, *]) | (rw [condK_bool]; split <;> simp only [c21, rFld, cells_unit, isTup_unit, h43, h44, hq, h56, evR, Nat.reduceAdd, Nat.reduceLT, Nat.reduceLeDiff, reduceIte, Nat.reduceEqDiff, reduceCtorEq, argEnv, eq_self, if_true, if_false, *]))
  · have hs : calls F rows l c = (⟨#[]⟩, asked (F, rows) [l]) := by simp [calls, ha]
    rw [hs]
    simp only [c21, rFld, cells_unit, isTup_unit, h43, ha, fn_eq, evR, Nat.reduceAdd, Nat.reduceLT, Nat.reduceLeDiff, reduceIte, Nat.reduceEqDiff, reduceCtorEq, argEnv, eq_self, if_true, if_false]
    repeat' (first | (rw [guardK_cases]; split <;> simp only [c21, rFld, cells_unit, isTup_unit, h43, ha, evR, Nat.reduceAdd, Nat.reduceLT, Nat.reduceLeDiff, reduceIte, Nat.reduceEqDiff, reduceCtorEq, argEnv, eq_self, if_true, if_false, *]) | (rw [condK_bool]; split <;> simp only [c21, rFld, cells_unit, isTup_unit, h43, ha, evR, Nat.reduceAdd, Nat.reduceLT, Nat.reduceLeDiff, reduceIte, Nat.reduceEqDiff, reduceCtorEq, argEnv, eq_self, if_true, if_false, *]))
theorem f4 (F : Int) (rows : List Row) (hl : rows.length < 9223372036854775807) (hvl : ∀ r ∈ rows, r.2.length < 9223372036854775807) (l : List Fld) (hu : l.length < 9223372036854775807) (c : Fld) :
    ∃ H', evC cprog 4 [.agg [.int .i64 F, .lst (rows.map rRow)], eUnit l, .agg (rFld c)] [] = some (.bool true, H') := by
  have h10 := fun H => f10 F rows hl _ H (.lst H rows)
  have h21 := fun H => f21 F rows hl hvl l hu c H
  have h22 := fun H => f22 F rows hl hvl l hu c H
  have h11 := f11
  have hlen := (sUnit [] l).len
  simp only [List.length_map] at hlen
  simp only [rFld] at h21 h22
  rw [evC_fn at4]
  simp only [c4, rFld, h10, h11, h21, h22, hlen, beq_self_eq_true, evW, fn_eq, evR, Nat.reduceAdd, Nat.reduceLT, Nat.reduceLeDiff, reduceIte, Nat.reduceEqDiff, reduceCtorEq, argEnv, eq_self, if_true, if_false]
  repeat' (first | (rw [guardK_cases]; split <;> simp only [c4, rFld, h10, h11, h21, h22, hlen, beq_self_eq_true, evW, evR, Nat.reduceAdd, Nat.reduceLT, Nat.reduceLeDiff, reduceIte, Nat.reduceEqDiff, reduceCtorEq, argEnv, eq_self, if_true, if_false, *]) | (rw [condK_bool]; split <;> simp only [c4, rFld, h10, h11, h21, h22, hlen, beq_self_eq_true, evW, evR, Nat.reduceAdd, Nat.reduceLT, Nat.reduceLeDiff, reduceIte, Nat.reduceEqDiff, reduceCtorEq, argEnv, eq_self, if_true, if_false, *]) | (rw [guardD_cases]; split <;> simp only [c4, rFld, h10, h11, h21, h22, hlen, beq_self_eq_true, evW, evR, Nat.reduceAdd, Nat.reduceLT, Nat.reduceLeDiff, reduceIte, Nat.reduceEqDiff, reduceCtorEq, argEnv, eq_self, if_true, if_false, *]))
  all_goals exact ⟨_, rfl⟩
end Go.Proofs.Ytehcdcnghcbimaa.Code
namespace Go.Proofs.Ytehcdcnghcbimaa.Pure
open Go.Proofs.Ytehcdcnghcbimaa.Ev Go.Proofs.Ytehcdcnghcbimaa.Code
theorem FastCalls (a0 : AV) (t0 : ArgTy true [.int .i64, .sl [.str, .sl [.int .i64]]] a0) (a1 : AV) (t1 : ArgTy false [.sl [.str, .int .i64, .str, .int .i64]] a1) (a2 : AV) (t2 : ArgTy true [.str, .int .i64, .str, .int .i64] a2) : ∃ H', evC cprog 4 [a0, a1, a2] [] = some (.bool true, H') := by
  obtain ⟨F, rows, rfl, h1, h2⟩ := open_table t0
  obtain ⟨l, rfl, h3⟩ := open_unit t1
  obtain ⟨bs, rfl, h⟩ := t2
  obtain ⟨c, rfl, _⟩ := open_fld h
  unfold reachBytes at h1 h2 h3
  exact f4 F rows (by omega) (fun r hr => by have := h2 r hr; omega) l (by omega) c
end Go.Proofs.Ytehcdcnghcbimaa.Pure

/- Units one after the other: what the program's Order does. -/
set_option linter.unusedSimpArgs false
set_option linter.unusedVariables false
namespace Go.Proofs.Ytehcdcnghcbimaa.Code
open Go.Proofs.Ytehcdcnghcbimaa.Ev

theorem f44F (F : Int) (rows : List Row) (hl : rows.length ≤ 1000000) (hv : ∀ r ∈ rows, r.2 ≠ [] ∧ r.2.length ≤ 1000000) (hG : GoodRows F rows) (hF : 0 < F) (l : List Fld) (hu : l.length < 9223372036854775807) (H : Heap) :
    cal (evC cprog) true 44 [.agg [.int .i64 F, .lst (rows.map rRow)], eUnit l] H = some (.tup [eTab (F, (runUnit F rows l).2), .int .i64 (runUnit F rows l).1], H) := by
  obtain ⟨rv, N, H', h1, hO, hG'⟩ := f44 F rows hl hv hG l hu H
  obtain ⟨ids, hf, hi⟩ := fz_tab hO fun r hr e => by have := (hG' r hr).1; rw [e] at this; simp at this; omega
  refine cal_frz h1 (ids := ids) ?_ (by rfl) hO.pre hi
  have e1 : fz1 H' (.agg [.int .i64 F, rv]) = some (eTab (F, (runUnit F rows l).2), ids) := by
    show (fzCells (fz H' 8) [.int .i64 F, rv]).map _ = _
    have e0 : fz H' 8 (.int .i64 F) = some (.int .i64 F, []) := rfl
    simp only [fzCells, e0, hf, Option.map_some, List.nil_append, List.append_nil]
    rfl
  have e2 : fz1 H' (.int .i64 (runUnit F rows l).1) = some (.int .i64 (runUnit F rows l).1, []) := rfl
  show (fzCells (fz1 H') [.agg [.int .i64 F, rv], .int .i64 (runUnit F rows l).1]).map _ = _
  simp only [fzCells, e1, e2, Option.map_some, List.append_nil]
theorem frz_tab {g : Nat} {vs : List AV} {H G : Heap} {F : Int} {rows : List Row} {rv : AV} {N : Nat} (h : cal (evC cprog) false g vs H = some (.agg [.int .i64 F, rv], H ++ G)) (hO : Own H N rv rows (H ++ G)) (hv : ∀ r ∈ rows, r.2 ≠ []) :
    cal (evC cprog) true g vs H = some (eTab (F, rows), H) := by
  obtain ⟨ids, hf, hi⟩ := fz_tab hO hv
  refine cal_frz h (ids := ids) ?_ (by rfl) hO.pre hi
  show (fzCells (fz (H ++ G) 8) [.int .i64 F, rv]).map _ = _
  have e0 : fz (H ++ G) 8 (.int .i64 F) = some (.int .i64 F, []) := rfl
  simp only [fzCells, e0, hf, Option.map_some, List.nil_append, List.append_nil]
  rfl
theorem f58F (F : Int) (rows : List Row) (hl : rows.length ≤ 1000000) (hv : ∀ r ∈ rows, r.2 ≠ [] ∧ r.2.length ≤ 1000000) (H : Heap) : cal (evC cprog) true 58 [.agg [.int .i64 F, .lst (rows.map rRow)]] H = some (eTab (F, rows), H) := by
  obtain ⟨rv, G, N, h, hO⟩ := f58' F rows hl hv H
  exact frz_tab h hO fun r hr => (hv r hr).1
theorem f59F (F : Int) (rows : List Row) (hl : rows.length ≤ 1000000) (hv : ∀ r ∈ rows, r.2 ≠ [] ∧ r.2.length ≤ 1000000) (H : Heap) : cal (evC cprog) true 59 [.agg [.int .i64 F, .lst (rows.map rRow)]] H = some (eTab (F, rows), H) := by
  obtain ⟨rv, G, N, h, hO⟩ := f59 F rows hl hv H
  exact frz_tab h hO fun r hr => (hv r hr).1

/-- the rows behind units, and which stood -/
noncomputable def ordered (F : Int) : List Row → List (List Fld) → List Row × List Bool
  | rows, [] => (rows, [])
  | rows, l :: us => ((ordered F (if (runUnit F rows l).1 < 0 then (runUnit F rows l).2 else rows) us).1, decide ((runUnit F rows l).1 < 0) :: (ordered F (if (runUnit F rows l).1 < 0 then (runUnit F rows l).2 else rows) us).2)
def rUnit (l : List Fld) : List AV := [eUnit l]
def rBool (b : Bool) : List AV := [.bool b]
/-- a table under way -/
structure Fine (F : Int) (m : Nat) (rows : List Row) : Prop where
  good : GoodRows F rows
  len : rows.length = m
  apart : Apart rows
theorem Fine.run {F : Int} {m : Nat} {rows : List Row} (h : Fine F m rows) (l : List Fld) : Fine F m (runUnit F rows l).2 :=
  ⟨runIdx_inv (F := F) (fun r => GoodRows F r) (fun r c h => h.doOne c) l rows 0 h.good, by rw [run_len]; exact h.len, run_apart F h.apart l⟩
theorem Fine.step {F : Int} {m : Nat} {rows : List Row} (h : Fine F m rows) (l : List Fld) : Fine F m (if (runUnit F rows l).1 < 0 then (runUnit F rows l).2 else rows) := by
  split
  · exact h.run l
  · exact h
theorem Fine.vals {F : Int} {m : Nat} {rows : List Row} (h : Fine F m rows) (hF : 0 < F) (hF2 : F ≤ 1000000) : ∀ r ∈ rows, r.2 ≠ [] ∧ r.2.length ≤ 1000000 := fun r hr => by
  have := (h.good r hr).1
  exact ⟨fun e => by rw [e] at this; simp at this; omega, by omega⟩
theorem l23 {F : Int} {m : Nat} (hF : 0 < F) (hF2 : F ≤ 1000000) (hm : m ≤ 1000000) (uv : AV) (H : Heap) (us : List (List Fld)) (hs : SlAt H 1 uv (us.map rUnit)) (hu : ∀ l ∈ us, l.length < 9223372036854775807) (hul : us.length ≤ 1000000) (B2 B4 : Blk) (rows : List Row) (hR : Fine F m rows)
    (st : St) (hE : keepEnv st.1 [4, 8, 9, 27, 28, 29] = [(4, .ptr (H.length + 1) 0 2 0 0), (8, .ptr (H.length + 2) 0 2 0 0), (9, .nils), (27, uv), (28, .int .i64 us.length), (29, .int .i64 0)])
    (hH : st.2 = H ++ (B2 :: B4 :: [⟨0, true, 24, 2, [[.int .i64 F, .lst (rows.map rRow)]]⟩])) (z : Option (CX × St)) (hz : itLim (evCode (evC cprog) itLim c23_l0) st = z) :
    ∃ T X sv, z = some (.exit 0, T, H ++ (B2 :: B4 :: ⟨0, true, 24, 2, [[.int .i64 F, .lst ((ordered F rows us).1.map rRow)]]⟩ :: X)) ∧ keepEnv T [4, 8, 9] = [(4, .ptr (H.length + 1) 0 2 0 0), (8, .ptr (H.length + 2) 0 2 0 0), (9, sv)] ∧
      Out (H.length + 3) 1 4 X sv ((ordered F rows us).2.map rBool) := by
  have L := loop_rule (σ := Nat × List Row × List Bool × Heap × AV) (m := [4, 8, 9, 27, 28, 29]) (env := fun i => [(4, .ptr (H.length + 1) 0 2 0 0), (8, .ptr (H.length + 2) 0 2 0 0), (9, i.2.2.2.2), (27, uv), (28, .int .i64 us.length), (29, .int .i64 (i.1 : Int))])
    (hp := fun i => H ++ (B2 :: B4 :: ⟨0, true, 24, 2, [[.int .i64 F, .lst (i.2.1.map rRow)]]⟩ :: i.2.2.2.1))
    (P := fun i r => ∃ T X sv, r = (.exit 0, T, H ++ (B2 :: B4 :: ⟨0, true, 24, 2, [[.int .i64 F, .lst ((ordered F i.2.1 (us.drop i.1)).1.map rRow)]]⟩ :: X)) ∧ keepEnv T [4, 8, 9] = [(4, .ptr (H.length + 1) 0 2 0 0), (8, .ptr (H.length + 2) 0 2 0 0), (9, sv)] ∧
      Out (H.length + 3) 1 4 X sv ((i.2.2.1 ++ (ordered F i.2.1 (us.drop i.1)).2).map rBool))
    (mu := fun i => us.length - i.1) (I := fun i => i.1 ≤ us.length ∧ Fine F m i.2.1 ∧ i.2.2.1.length = i.1 ∧ Out (H.length + 3) 1 4 i.2.2.2.1 i.2.2.2.2 (i.2.2.1.map rBool)) (evCode (evC cprog) itLim c23_l0) ?_ (0, rows, [], [], .nils) st ⟨Nat.zero_le _, hR, rfl, .nils ..⟩ hE hH z hz
  · obtain ⟨r, rfl, T, X, sv, rfl, h2, h3⟩ := L
    exact ⟨T, X, sv, rfl, h2, h3⟩
  · intro ⟨i, rows, bs, X, sv⟩ ⟨hi, hI, hbl, hO⟩ E hE
    simp only at hi hI hbl hO hE ⊢
    by_cases hlt : i < us.length
    · obtain ⟨l, hx⟩ : ∃ l, us[i]? = some l := ⟨_, List.getElem?_eq_getElem hlt⟩
      have hd : us.drop i = l :: us.drop (i + 1) := by
        rw [List.drop_eq_getElem_cons hlt]
        rw [List.getElem?_eq_getElem hlt] at hx
        cases hx; rfl
      have hi1 : (i : Int) < (us.length : Int) := by omega
      obtain ⟨_, p, hp, hat⟩ := hs.get i (rUnit l) (by rw [List.getElem?_map, hx]; rfl)
      have h44 := fun H => f44F F rows (by have := hI.len; omega) (hI.vals hF hF2) hI.good hF l (hu l (List.mem_of_getElem? hx)) H
      have hap := fun B8 Y a => out_app (hO.more Y) 1 (H ++ [B2, B4, B8]) (by simp) a
      simp only [List.append_assoc, List.cons_append, List.nil_append] at hap
      have hbnd : (bs.map rBool).length + 1 ≤ reach := by simp only [List.length_map, reach]; omega
      have e : ordered F rows (us.drop i) = ((ordered F (if (runUnit F rows l).1 < 0 then (runUnit F rows l).2 else rows) (us.drop (i + 1))).1, decide ((runUnit F rows l).1 < 0) :: (ordered F (if (runUnit F rows l).1 < 0 then (runUnit F rows l).2 else rows) (us.drop (i + 1))).2) := by
        rw [hd]; rfl
      have hfin := hI.step l
      by_cases hq : (runUnit F rows l).1 < 0
      all_goals
        simp only [hq, if_true, if_false, decide_true, decide_false] at e hfin
        simp only [c23_l0, hE, hi1, hp, hat.onex, h44, cells_tab, isTup_tab, hq, hap, src_ref, apO_cons, Nat.mul_one, hbnd, wrapS (Nat.lt_of_lt_of_le hlt (Nat.le_refl _)) (by omega : us.length < 9223372036854775807), evW, fn_eq, evR, Nat.reduceAdd, Nat.reduceLT, Nat.reduceLeDiff, reduceIte, Nat.reduceEqDiff, reduceCtorEq, argEnv, eq_self, if_true, if_false]
        repeat' (first | (rw [guardK_cases]; split <;> simp only [c23_l0, hE, hi1, hp, hat.onex, h44, cells_tab, isTup_tab, hq, hap, src_ref, apO_cons, Nat.mul_one, hbnd, wrapS (Nat.lt_of_lt_of_le hlt (Nat.le_refl _)) (by omega : us.length < 9223372036854775807), evW, evR, Nat.reduceAdd, Nat.reduceLT, Nat.reduceLeDiff, reduceIte, Nat.reduceEqDiff, reduceCtorEq, argEnv, eq_self, if_true, if_false, *]) | (rw [condK_bool]; split <;> simp only [c23_l0, hE, hi1, hp, hat.onex, h44, cells_tab, isTup_tab, hq, hap, src_ref, apO_cons, Nat.mul_one, hbnd, wrapS (Nat.lt_of_lt_of_le hlt (Nat.le_refl _)) (by omega : us.length < 9223372036854775807), evW, evR, Nat.reduceAdd, Nat.reduceLT, Nat.reduceLeDiff, reduceIte, Nat.reduceEqDiff, reduceCtorEq, argEnv, eq_self, if_true, if_false, *]) | (rw [guardD_cases]; split <;> simp only [c23_l0, hE, hi1, hp, hat.onex, h44, cells_tab, isTup_tab, hq, hap, src_ref, apO_cons, Nat.mul_one, hbnd, wrapS (Nat.lt_of_lt_of_le hlt (Nat.le_refl _)) (by omega : us.length < 9223372036854775807), evW, evR, Nat.reduceAdd, Nat.reduceLT, Nat.reduceLeDiff, reduceIte, Nat.reduceEqDiff, reduceCtorEq, argEnv, eq_self, if_true, if_false, *]))
      · exact q_next (i + 1, (runUnit F rows l).2, bs ++ [true], _, _) (by rfl) rfl ⟨by omega, hfin, by simp [hbl], by rw [List.map_append]; exact (hO.more _).step (by simp)⟩ (by simp only; omega) (fun r h => by simp only [e]; simpa using h)
      · exact q_next (i + 1, rows, bs ++ [false], _, _) (by rfl) rfl ⟨by omega, hfin, by simp [hbl], by rw [List.map_append]; exact (hO.more _).step (by simp)⟩ (by simp only; omega) (fun r h => by simp only [e]; simpa using h)
    · have : i = us.length := by omega
      subst this
      simp only [c23_l0, hE, Int.lt_irrefl, fn_eq, evR, Nat.reduceAdd, Nat.reduceLT, Nat.reduceLeDiff, reduceIte, Nat.reduceEqDiff, reduceCtorEq, argEnv, eq_self, if_true, if_false]
      repeat' (first | (rw [guardK_cases]; split <;> simp only [c23_l0, hE, Int.lt_irrefl, evR, Nat.reduceAdd, Nat.reduceLT, Nat.reduceLeDiff, reduceIte, Nat.reduceEqDiff, reduceCtorEq, argEnv, eq_self, if_true, if_false, *]) | (rw [condK_bool]; split <;> simp only [c23_l0, hE, Int.lt_irrefl, evR, Nat.reduceAdd, Nat.reduceLT, Nat.reduceLeDiff, reduceIte, Nat.reduceEqDiff, reduceCtorEq, argEnv, eq_self, if_true, if_false, *]))
      refine q_exit ?_
      simp only [List.drop_length, ordered, List.append_nil]
      exact ⟨_, X, sv, rfl, by rfl, hO⟩
end Go.Proofs.Ytehcdcnghcbimaa.Code

/- The program's Order. -/
set_option linter.unusedSimpArgs false
set_option linter.unusedVariables false
namespace Go.Proofs.Ytehcdcnghcbimaa.Code
open Go.Proofs.Ytehcdcnghcbimaa.Ev

theorem fz_rBools {n : Nat} {X : Heap} {sv : AV} {bs : List Bool} (h : Out n 1 4 X sv (bs.map rBool)) (H0 : Heap) (hn : n = H0.length) : ∃ ids, fz (H0 ++ X) 8 sv = some (.lst (bs.map rBool), ids) ∧ ∀ b ∈ ids, n ≤ b :=
  fz_out h H0 hn (fun r hr a ha => by
    obtain ⟨b, _, rfl⟩ := List.mem_map.1 hr
    simp [rBool] at ha
    subst ha
    exact ⟨rfl, fun m H => rfl⟩) 6
theorem fz_order {H0 X : Heap} {F e : Int} {rows : List Row} {n : Nat} {tv sv : AV} {bs : List Bool} (ht : ∀ H, fz H 8 tv = some (.lst (rows.map rRow), [])) (h : Out n 1 4 X sv (bs.map rBool)) (hn : n = H0.length) :
    ∃ ids, fzRes (H0 ++ X) (.tup [.agg [.int .i64 F, tv], sv, .int .i64 e]) = some (.tup [eTab (F, rows), .lst (bs.map rBool), .int .i64 e], ids) ∧ ∀ b ∈ ids, n ≤ b := by
  obtain ⟨ids, h1, h2⟩ := fz_rBools h H0 hn
  refine ⟨ids, ?_, h2⟩
  have e1 : fz1 (H0 ++ X) (.agg [.int .i64 F, tv]) = some (eTab (F, rows), []) := by
    show (fzCells (fz (H0 ++ X) 8) [.int .i64 F, tv]).map _ = _
    have e0 : fz (H0 ++ X) 8 (.int .i64 F) = some (.int .i64 F, []) := rfl
    simp only [fzCells, e0, ht, Option.map_some, List.nil_append, List.append_nil]
    rfl
  have e2 : fz1 (H0 ++ X) (.int .i64 e) = some (.int .i64 e, []) := rfl
  have e3 : fz1 (H0 ++ X) sv = some (.lst (bs.map rBool), ids) := by
    have : fz1 (H0 ++ X) sv = fz (H0 ++ X) 8 sv := by
      rcases h with ⟨_, rfl | rfl⟩ | ⟨_, j, v, rfl, _⟩ <;> rfl
    rw [this, h1]
  show (fzCells (fz1 (H0 ++ X)) [.agg [.int .i64 F, tv], sv, .int .i64 e]).map _ = _
  simp only [fzCells, e1, e2, e3, Option.map_some, List.append_nil, List.nil_append]
theorem calF_order {H Y X : Heap} {F e : Int} {rows : List Row} {n : Nat} {tv sv : AV} {bs : List Bool} (ht : ∀ H, fz H 8 tv = some (.lst (rows.map rRow), [])) (h : Out n 1 4 X sv (bs.map rBool)) (hn : n = H.length + Y.length) :
    calK true H (some (.tup [.agg [.int .i64 F, tv], sv, .int .i64 e], H ++ (Y ++ X))) = some (.tup [eTab (F, rows), .lst (bs.map rBool), .int .i64 e], H) := by
  obtain ⟨ids, h1, h2⟩ := fz_order (H0 := H ++ Y) (F := F) (e := e) (rows := rows) ht h (by simp [hn])
  rw [List.append_assoc] at h1
  exact calK_frz h1 rfl (by simp) fun b hb => by have := h2 b hb; omega
/-- what Order answers -/
noncomputable def orders (F : Int) (rows : List Row) (us : List (List Fld)) : Table × List Bool × Int :=
  if asked (F, rows) us = 0 then (if 20 < us.length then ((0, []), [], 2) else ((F, (ordered F rows us).1), (ordered F rows us).2, 0)) else ((0, []), [], asked (F, rows) us)
theorem asked_F {F : Int} {rows : List Row} {us : List (List Fld)} (h : asked (F, rows) us = 0) : 0 < F ∧ F ≤ 4 := by
  have hv : valid (F, rows) = true := by
    cases hv : valid (F, rows) with
    | true => rfl
    | false => simp [asked, hv] at h
  simp only [valid, Bool.and_eq_true, decide_eq_true_eq] at hv
  omega
theorem asked_fine {F : Int} {rows : List Row} {us : List (List Fld)} (h : asked (F, rows) us = 0) : Fine F rows.length rows := ⟨(asked_good h).1, rfl, asked_apart h⟩
theorem f23 (F : Int) (rows : List Row) (hl : rows.length < 9223372036854775807) (hvl : ∀ r ∈ rows, r.2.length < 9223372036854775807) (us : List (List Fld)) (uv : AV) (H : Heap) (hs : SlAt H 1 uv (us.map rUnit)) (hul : us.length < 9223372036854775807) (hu : ∀ l ∈ us, l.length < 9223372036854775807) :
    cal (evC cprog) true 23 [.agg [.int .i64 F, .lst (rows.map rRow)], uv] H = some (.tup [eTab (orders F rows us).1, .lst ((orders F rows us).2.1.map rBool), .int .i64 (orders F rows us).2.2], H) := by
  have h43 := fun Y => f43 F rows hl hvl _ (H ++ Y) (.lst _ rows) us uv (hs.app Y) hul hu
  have hlen := hs.len
  simp only [List.length_map] at hlen
  rw [cal_of at23]
  by_cases ha : asked (F, rows) us = 0
  · obtain ⟨hG, hv, hl'⟩ := asked_good ha
    obtain ⟨hF, hF2⟩ := asked_F ha
    simp only [ha] at h43
    by_cases hq : 20 < us.length
    · have ho : orders F rows us = ((0, []), [], 2) := by simp [orders, ha, hq]
      have hq' : 20 < (us.length : Int) := by omega
      rw [ho]
      simp only [c23, h43, hlen, hq', evW, fn_eq, evR, Nat.reduceAdd, Nat.reduceLT, Nat.reduceLeDiff, reduceIte, Nat.reduceEqDiff, reduceCtorEq, argEnv, eq_self, if_true, if_false]
      repeat' (first | (rw [guardK_cases]; split <;> simp only [c23, h43, hlen, hq', evW, evR, Nat.reduceAdd, Nat.reduceLT, Nat.reduceLeDiff, reduceIte, Nat.reduceEqDiff, reduceCtorEq, argEnv, eq_self, if_true, if_false, *]) | (rw [condK_bool]; split <;> simp only [c23, h43, hlen, hq', evW, evR, Nat.reduceAdd, Nat.reduceLT, Nat.reduceLeDiff, reduceIte, Nat.reduceEqDiff, reduceCtorEq, argEnv, eq_self, if_true, if_false, *]) | (rw [guardD_cases]; split <;> simp only [c23, h43, hlen, hq', evW, evR, Nat.reduceAdd, Nat.reduceLT, Nat.reduceLeDiff, reduceIte, Nat.reduceEqDiff, reduceCtorEq, argEnv, eq_self, if_true, if_false, *]))
      exact calF_order (Y := [_, _]) (X := []) (rows := []) (n := H.length + 2) (sv := .nils) (bs := []) (fun _ => rfl) (.nils ..) rfl
    · have ho : orders F rows us = ((F, (ordered F rows us).1), (ordered F rows us).2, 0) := by simp [orders, ha, hq]
      have hq' : ¬ 20 < (us.length : Int) := by omega
      have h58 := fun H => f58F F rows hl' hv H
      rw [ho]
      simp only [c23, h43, h58, hlen, hq', cells_tab, isTup_tab, evW, fn_eq, evR, Nat.reduceAdd, Nat.reduceLT, Nat.reduceLeDiff, reduceIte, Nat.reduceEqDiff, reduceCtorEq, argEnv, eq_self, if_true, if_false]
      repeat' (first | (rw [guardK_cases]; split <;> simp only [c23, h43, h58, hlen, hq', cells_tab, isTup_tab, evW, evR, Nat.reduceAdd, Nat.reduceLT, Nat.reduceLeDiff, reduceIte, Nat.reduceEqDiff, reduceCtorEq, argEnv, eq_self, if_true, if_false, *]) | (rw [condK_bool]; split <;> simp only [c23, h43, h58, hlen, hq', cells_tab, isTup_tab, evW, evR, Nat.reduceAdd, Nat.reduceLT, Nat.reduceLeDiff, reduceIte, Nat.reduceEqDiff, reduceCtorEq, argEnv, eq_self, if_true, if_false, *]) | (rw [guardD_cases]; split <;> simp only [c23, h43, h58, hlen, hq', cells_tab, isTup_tab, evW, evR, Nat.reduceAdd, Nat.reduceLT, Nat.reduceLeDiff, reduceIte, Nat.reduceEqDiff, reduceCtorEq, argEnv, eq_self, if_true, if_false, *]))
      generalize hz : itLim _ _ = z
      obtain ⟨T, X, sv, rfl, hT, hO⟩ := l23 hF (by omega) hl' uv H us hs hu (by unfold asked at ha; omega) _ _ rows (asked_fine ha) _ (by rfl) (by rfl) z hz
      simp only [hT, out_tup hO, cells_tab, isTup_tab, evW, fn_eq, evR, Nat.reduceAdd, Nat.reduceLT, Nat.reduceLeDiff, reduceIte, Nat.reduceEqDiff, reduceCtorEq, argEnv, eq_self, if_true, if_false]
      repeat' (first | (rw [guardK_cases]; split <;> simp only [hT, out_tup hO, cells_tab, isTup_tab, evW, evR, Nat.reduceAdd, Nat.reduceLT, Nat.reduceLeDiff, reduceIte, Nat.reduceEqDiff, reduceCtorEq, argEnv, eq_self, if_true, if_false, *]) | (rw [condK_bool]; split <;> simp only [hT, out_tup hO, cells_tab, isTup_tab, evW, evR, Nat.reduceAdd, Nat.reduceLT, Nat.reduceLeDiff, reduceIte, Nat.reduceEqDiff, reduceCtorEq, argEnv, eq_self, if_true, if_false, *]) | (rw [guardD_cases]; split <;> simp only [hT, out_tup hO, cells_tab, isTup_tab, evW, evR, Nat.reduceAdd, Nat.reduceLT, Nat.reduceLeDiff, reduceIte, Nat.reduceEqDiff, reduceCtorEq, argEnv, eq_self, if_true, if_false, *]))
      exact calF_order (Y := [_, _, _]) (n := H.length + 3) (fun _ => rfl) hO rfl
  · have ho : orders F rows us = ((0, []), [], asked (F, rows) us) := by simp [orders, ha]
    rw [ho]
    simp only [c23, h43, ha, evW, fn_eq, evR, Nat.reduceAdd, Nat.reduceLT, Nat.reduceLeDiff, reduceIte, Nat.reduceEqDiff, reduceCtorEq, argEnv, eq_self, if_true, if_false]
    repeat' (first | (rw [guardK_cases]; split <;> simp only [c23, h43, ha, evW, evR, Nat.reduceAdd, Nat.reduceLT, Nat.reduceLeDiff, reduceIte, Nat.reduceEqDiff, reduceCtorEq, argEnv, eq_self, if_true, if_false, *]) | (rw [condK_bool]; split <;> simp only [c23, h43, ha, evW, evR, Nat.reduceAdd, Nat.reduceLT, Nat.reduceLeDiff, reduceIte, Nat.reduceEqDiff, reduceCtorEq, argEnv, eq_self, if_true, if_false, *]) | (rw [guardD_cases]; split <;> simp only [c23, h43, ha, evW, evR, Nat.reduceAdd, Nat.reduceLT, Nat.reduceLeDiff, reduceIte, Nat.reduceEqDiff, reduceCtorEq, argEnv, eq_self, if_true, if_false, *]))
    exact calF_order (Y := [_, _]) (X := []) (rows := []) (n := H.length + 2) (sv := .nils) (bs := []) (fun _ => rfl) (.nils ..) rfl
end Go.Proofs.Ytehcdcnghcbimaa.Code

/- Units that touch no row in common may be exchanged. -/
set_option linter.unusedSimpArgs false
set_option linter.unusedVariables false
namespace Go.Proofs.Ytehcdcnghcbimaa.Code
open Go.Proofs.Ytehcdcnghcbimaa.Ev

abbrev ix (k : ByteArray) (rows : List Row) : Int := idxOf (fun (r : Row) => decide (r.1 = k)) rows
theorem ix_cases (k : ByteArray) (rows : List Row) : ix k rows = -1 ∨ ∃ (i : Nat) (r : Row), ix k rows = i ∧ rows[i]? = some r ∧ r.1 = k := by
  unfold ix idxOf
  cases h : rows.findIdx? (fun (r : Row) => decide (r.1 = k)) with
  | none => exact .inl rfl
  | some i =>
    obtain ⟨h1, h2, _⟩ := List.findIdx?_eq_some_iff_getElem.1 h
    exact .inr ⟨i, rows[i], rfl, List.getElem?_eq_getElem h1, by simpa using h2⟩
theorem ix_set (k : ByteArray) (rows : List Row) {i : Nat} {r r' : Row} (hr : rows[i]? = some r) (hk : r'.1 = r.1) : ix k (rows.set i r') = ix k rows := by
  have h : ∀ rows : List Row, rows.findIdx? (fun (r : Row) => decide (r.1 = k)) = (rows.map (·.1)).findIdx? (fun s => decide (s = k)) := fun rows => by
    rw [List.findIdx?_map]; rfl
  unfold ix idxOf
  rw [h, h]
  have : (rows.set i r').map (·.1) = rows.map (·.1) := by
    rw [List.map_set]
    apply List.ext_getElem?
    intro j
    by_cases hj : j = i
    · subst hj
      have := (List.getElem?_eq_some_iff.1 hr).1
      rw [List.getElem?_set_self (by simpa using this), List.getElem?_map, hr, hk]; rfl
    · rw [List.getElem?_set_ne (fun e => hj e.symm)]
  rw [this]
/-- what one call may do -/
theorem doOne_cases (F : Int) (rows : List Row) (c : Fld) : (doOne F rows c).2 = rows ∨ ∃ (i : Nat) (r r' : Row), rows[i]? = some r ∧ r.1 = c.key ∧ r'.1 = r.1 ∧ (doOne F rows c).2 = rows.set i r' := by
  unfold doOne
  rcases ix_cases c.key rows with h | ⟨i, r, h, hr, hk⟩
  · rw [if_pos (by unfold ix at h; omega)]; exact .inl rfl
  · unfold ix at h
    split
    · exact .inl rfl
    · split
      · exact .inl rfl
      · split
        · exact .inl rfl
        · split
          · exact .inl rfl
          · refine .inr ⟨i, r, (r.1, r.2.set c.field.toNat (next c (valAt rows i c.field.toNat))), hr, hk, rfl, ?_⟩
            simp only [h, Int.toNat_natCast, putAt, hr]
theorem doOne_set (F : Int) (rows : List Row) (d : Fld) {i : Nat} {r r' : Row} (hr : rows[i]? = some r) (hk : r'.1 = r.1) (hd : r.1 ≠ d.key) :
    doOne F (rows.set i r') d = ((doOne F rows d).1, (doOne F rows d).2.set i r') := by
  have hx := ix_set d.key rows hr hk
  unfold ix at hx
  unfold doOne
  rw [hx]
  rcases ix_cases d.key rows with h | ⟨j, s, h, hs, hj⟩
  · unfold ix at h
    rw [if_pos (by omega), if_pos (by omega)]
  · unfold ix at h
    have hij : i ≠ j := fun e => by
      subst e
      rw [hr] at hs
      cases hs
      exact hd hj
    have hsame : (rows.set i r')[j]? = rows[j]? := List.getElem?_set_ne hij
    have hv : ∀ f, valAt (rows.set i r') j f = valAt rows j f := fun f => by unfold valAt; rw [hsame]
    have hp : ∀ f n, putAt (rows.set i r') j f n = (putAt rows j f n).set i r' := fun f n => by
      unfold putAt
      rw [hsame, hs]
      simp only
      rw [List.set_comm _ _ hij]
    simp only [h, Int.toNat_natCast, hv, hp]
    repeat' split
    all_goals rfl
theorem one_far (F : Int) (rows : List Row) {c d : Fld} (h : c.key ≠ d.key) : (doOne F (doOne F rows c).2 d).1 = (doOne F rows d).1 ∧ (doOne F (doOne F rows c).2 d).2 = (doOne F (doOne F rows d).2 c).2 := by
  rcases doOne_cases F rows c with h1 | ⟨i, r, r', hr, hk, hk', h1⟩
  · refine ⟨by rw [h1], ?_⟩
    rw [h1]
    rcases doOne_cases F rows d with h2 | ⟨j, s, s', hs, hd, hd', h2⟩
    · rw [h2, h1]
    · rw [h2, doOne_set F rows c hs hd' (by rw [hd]; exact fun e => h e.symm), h1]
  · have e1 := doOne_set F rows d hr hk' (by rw [hk]; exact h)
    refine ⟨by rw [h1, e1], ?_⟩
    rw [h1, e1]
    rcases doOne_cases F rows d with h2 | ⟨j, s, s', hs, hd, hd', h2⟩
    · rw [h2, h1]
    · rw [h2, doOne_set F rows c hs hd' (by rw [hd]; exact fun e => h e.symm), h1]
      simp only
      rw [List.set_comm]
      rintro rfl
      rw [hr] at hs
      cases hs
      exact h (by rw [← hk, ← hd])
theorem far_bad (F : Int) (rows : List Row) {c d : Fld} (h : c.key ≠ d.key) : bad F (after F rows c) d = bad F rows d := by
  unfold bad after; rw [(one_far F rows h).1]
theorem far_after (F : Int) (rows : List Row) {c d : Fld} (h : c.key ≠ d.key) : after F (after F rows c) d = after F (after F rows d) c := (one_far F rows h).2
theorem run_far (F : Int) {c : Fld} : ∀ (m : List Fld) (rows : List Row) (k : Nat), (∀ d ∈ m, c.key ≠ d.key) →
    runIdx (bad F) (after F) (after F rows c) m k = ((runIdx (bad F) (after F) rows m k).1, after F (runIdx (bad F) (after F) rows m k).2 c) ∧ bad F (runIdx (bad F) (after F) rows m k).2 c = bad F rows c
  | [], rows, k, _ => ⟨rfl, rfl⟩
  | d :: m, rows, k, h => by
    have hd := h d (List.mem_cons_self ..)
    have ih := run_far F m (after F rows d) (k + 1) fun e he => h e (List.mem_cons_of_mem _ he)
    simp only [runIdx, far_bad F rows hd, far_after F rows hd]
    split
    · exact ⟨rfl, far_bad F rows (fun e => hd e.symm)⟩
    · exact ⟨ih.1, by rw [ih.2]; exact far_bad F rows (fun e => hd e.symm)⟩
theorem runs_far (F : Int) {m : List Fld} (k' : Nat) : ∀ (l : List Fld) (rows : List Row) (k : Nat), (∀ c ∈ l, ∀ d ∈ m, c.key ≠ d.key) →
    runIdx (bad F) (after F) (runIdx (bad F) (after F) rows l k).2 m k' = ((runIdx (bad F) (after F) rows m k').1, (runIdx (bad F) (after F) (runIdx (bad F) (after F) rows m k').2 l k).2) ∧
      (runIdx (bad F) (after F) (runIdx (bad F) (after F) rows m k').2 l k).1 = (runIdx (bad F) (after F) rows l k).1
  | [], rows, k, _ => ⟨rfl, rfl⟩
  | c :: l, rows, k, h => by
    have hc := run_far F m rows k' (h c (List.mem_cons_self ..))
    have ih := runs_far F k' l (after F rows c) (k + 1) fun e he => h e (List.mem_cons_of_mem _ he)
    simp only [runIdx, hc.2]
    rw [hc.1] at ih
    split
    · exact ⟨hc.1, rfl⟩
    · exact ih
theorem units_far (F : Int) (rows : List Row) {l m : List Fld} (h : ∀ c ∈ l, ∀ d ∈ m, c.key ≠ d.key) :
    (ordered F rows [l, m]).1 = (ordered F rows [m, l]).1 ∧ ∃ a b, (ordered F rows [l, m]).2 = [a, b] ∧ (ordered F rows [m, l]).2 = [b, a] := by
  obtain ⟨h1, h2⟩ := runs_far F (m := m) 0 l rows 0 h
  have h3 : (runUnit F (runUnit F rows l).2 m).1 = (runUnit F rows m).1 := by unfold runUnit; rw [h1]
  have h4 : (runUnit F (runUnit F rows m).2 l).1 = (runUnit F rows l).1 := h2
  have h5 : (runUnit F (runUnit F rows l).2 m).2 = (runUnit F (runUnit F rows m).2 l).2 := by
    show (runIdx (bad F) (after F) (runIdx (bad F) (after F) rows l 0).2 m 0).2 = _
    rw [h1]; rfl
  by_cases hl : (runUnit F rows l).1 < 0 <;> by_cases hm : (runUnit F rows m).1 < 0 <;> simp [ordered, hl, hm, h3, h4, h5]
end Go.Proofs.Ytehcdcnghcbimaa.Code

/- The law FastApart. -/
set_option linter.unusedSimpArgs false
set_option linter.unusedVariables false
namespace Go.Proofs.Ytehcdcnghcbimaa.Code
open Go.Proofs.Ytehcdcnghcbimaa.Ev

def apart1 (m : List Fld) (c : Fld) : Bool := m.all fun d => !decide (c.key = d.key)
theorem l5_0 (P3 : AV) (l m : List Fld) (hl : l.length < 9223372036854775807) (hm : m.length < 9223372036854775807) (i : Nat) (c : Fld) (hc : l[i]? = some c) (H K G : Heap) (st : St)
    (hE : keepEnv st.1 [1, 2, 3, 7, 8] = [(1, eUnit l), (2, eUnit m), (3, P3), (7, .int .i64 (i : Int)), (8, .int .i64 0)]) (hH : st.2 = H ++ (K ++ G)) (z : Option (CX × St)) (hz : itLim (evCode (evC cprog) itLim c5_l0) st = z) :
    (apart1 m c = true ∧ Lv H K (fun x T => x = .exit 2 ∧ keepEnv T [1, 2, 3, 7] = [(1, eUnit l), (2, eUnit m), (3, P3), (7, .int .i64 (i : Int))]) z) ∨ (apart1 m c = false ∧ Lv H K (fun x T => x = .ret ∧ get T 6 = some (.bool true)) z) := by
  have h1 := (sUnit H l).len
  have h2 := (sUnit H m).len
  simp only [List.length_map] at h1 h2
  obtain ⟨_, p, hp, hat⟩ := (sUnit H l).get i (rFld c) (by rw [List.getElem?_map, hc]; rfl)
  exact all_rule m (fun d => !decide (c.key = d.key)) [1, 2, 3, 7, 8] (fun k => [(1, eUnit l), (2, eUnit m), (3, P3), (7, .int .i64 (i : Int)), (8, .int .i64 (k : Int))]) H K (evCode (evC cprog) itLim c5_l0) _ _
    (fun k d hk E G hE => by
      have hlt : k < m.length := (List.getElem?_eq_some_iff.1 hk).1
      have hi : (k : Int) < (m.length : Int) := by omega
      obtain ⟨_, q, hq, hqt⟩ := (sUnit H m).get k (rFld d) (by rw [List.getElem?_map, hk]; rfl)
      have e1 : (rFld c)[0]? = some (.str c.key) := rfl
      have e2 : (rFld d)[0]? = some (.str d.key) := rfl
      simp only [c5_l0, hE, h1, h2, hi, hp, hq, hat.faddr, hat.fldx, hqt.faddr, hqt.fldx, e1, e2, f11, wrapS hlt hm, evW, fn_eq, evR, Nat.reduceAdd, Nat.reduceLT, Nat.reduceLeDiff, reduceIte, Nat.reduceEqDiff, reduceCtorEq, argEnv, eq_self, if_true, if_false]
      repeat' (first | (rw [guardK_cases]; split <;> simp only [c5_l0, hE, h1, h2, hi, hp, hq, hat.faddr, hat.fldx, hqt.faddr, hqt.fldx, e1, e2, f11, wrapS hlt hm, evW, evR, Nat.reduceAdd, Nat.reduceLT, Nat.reduceLeDiff, reduceIte, Nat.reduceEqDiff, reduceCtorEq, argEnv, eq_self, if_true, if_false, *]) | (rw [condK_bool]; split <;> simp only [c5_l0, hE, h1, h2, hi, hp, hq, hat.faddr, hat.fldx, hqt.faddr, hqt.fldx, e1, e2, f11, wrapS hlt hm, evW, evR, Nat.reduceAdd, Nat.reduceLT, Nat.reduceLeDiff, reduceIte, Nat.reduceEqDiff, reduceCtorEq, argEnv, eq_self, if_true, if_false, *]) | (rw [guardD_cases]; split <;> simp only [c5_l0, hE, h1, h2, hi, hp, hq, hat.faddr, hat.fldx, hqt.faddr, hqt.fldx, e1, e2, f11, wrapS hlt hm, evW, evR, Nat.reduceAdd, Nat.reduceLT, Nat.reduceLeDiff, reduceIte, Nat.reduceEqDiff, reduceCtorEq, argEnv, eq_self, if_true, if_false, *]))
      all_goals first | exact Sc.next (by first | (simp_all [apart1]; done) | (simp_all [apart1]; intros; omega)) (by rfl) | exact Sc.ret (by first | (simp_all [apart1]; done) | (simp_all [apart1]; intros; omega)) ⟨rfl, by first | rfl | exact ⟨rfl, rfl, rfl⟩⟩ | exact Sc.exit (by first | (simp_all [apart1]; done) | (simp_all [apart1]; intros; omega)) ⟨rfl, rfl⟩)
    (fun E G hE => by
      simp only [c5_l0, hE, h1, h2, Int.lt_irrefl, evW, fn_eq, evR, Nat.reduceAdd, Nat.reduceLT, Nat.reduceLeDiff, reduceIte, Nat.reduceEqDiff, reduceCtorEq, argEnv, eq_self, if_true, if_false]
      repeat' (first | (rw [guardK_cases]; split <;> simp only [c5_l0, hE, h1, h2, Int.lt_irrefl, evW, evR, Nat.reduceAdd, Nat.reduceLT, Nat.reduceLeDiff, reduceIte, Nat.reduceEqDiff, reduceCtorEq, argEnv, eq_self, if_true, if_false, *]) | (rw [condK_bool]; split <;> simp only [c5_l0, hE, h1, h2, Int.lt_irrefl, evW, evR, Nat.reduceAdd, Nat.reduceLT, Nat.reduceLeDiff, reduceIte, Nat.reduceEqDiff, reduceCtorEq, argEnv, eq_self, if_true, if_false, *]) | (rw [guardD_cases]; split <;> simp only [c5_l0, hE, h1, h2, Int.lt_irrefl, evW, evR, Nat.reduceAdd, Nat.reduceLT, Nat.reduceLeDiff, reduceIte, Nat.reduceEqDiff, reduceCtorEq, argEnv, eq_self, if_true, if_false, *]))
      exact .exit ⟨rfl, by rfl⟩) st G hE hH z hz
theorem l5_1 (P3 : AV) (l m : List Fld) (hl : l.length < 9223372036854775807) (hm : m.length < 9223372036854775807) (H K G : Heap) (st : St)
    (hE : keepEnv st.1 [1, 2, 3, 7] = [(1, eUnit l), (2, eUnit m), (3, P3), (7, .int .i64 0)]) (hH : st.2 = H ++ (K ++ G)) (z : Option (CX × St)) (hz : itLim (evCode (evC cprog) itLim c5_l1) st = z) :
    (l.all (apart1 m) = true ∧ Lv H K (fun x T => x = .exit 0 ∧ keepEnv T [1, 2, 3] = [(1, eUnit l), (2, eUnit m), (3, P3)]) z) ∨ (l.all (apart1 m) = false ∧ Lv H K (fun x T => x = .ret ∧ get T 6 = some (.bool true)) z) := by
  have h1 := (sUnit H l).len
  simp only [List.length_map] at h1
  exact all_rule l (apart1 m) [1, 2, 3, 7] (fun k => [(1, eUnit l), (2, eUnit m), (3, P3), (7, .int .i64 (k : Int))]) H K (evCode (evC cprog) itLim c5_l1) _ _
    (fun k c hk E G hE => by
      have hlt : k < l.length := (List.getElem?_eq_some_iff.1 hk).1
      have hi : (k : Int) < (l.length : Int) := by omega
      have hin := fun z => l5_0 P3 l m hl hm k c hk H K G ([(8, .int .i64 0), (1, eUnit l), (2, eUnit m), (3, P3), (7, .int .i64 (k : Int))], H ++ (K ++ G)) (by rfl) rfl z
      simp only [c5_l1, hE, h1, hi, evW, fn_eq, evR, Nat.reduceAdd, Nat.reduceLT, Nat.reduceLeDiff, reduceIte, Nat.reduceEqDiff, reduceCtorEq, argEnv, eq_self, if_true, if_false]
      repeat' (first | (rw [guardK_cases]; split <;> simp only [c5_l1, hE, h1, hi, evW, evR, Nat.reduceAdd, Nat.reduceLT, Nat.reduceLeDiff, reduceIte, Nat.reduceEqDiff, reduceCtorEq, argEnv, eq_self, if_true, if_false, *]) | (rw [condK_bool]; split <;> simp only [c5_l1, hE, h1, hi, evW, evR, Nat.reduceAdd, Nat.reduceLT, Nat.reduceLeDiff, reduceIte, Nat.reduceEqDiff, reduceCtorEq, argEnv, eq_self, if_true, if_false, *]) | (rw [guardD_cases]; split <;> simp only [c5_l1, hE, h1, hi, evW, evR, Nat.reduceAdd, Nat.reduceLT, Nat.reduceLeDiff, reduceIte, Nat.reduceEqDiff, reduceCtorEq, argEnv, eq_self, if_true, if_false, *]))
      generalize hz : itLim _ _ = z
      rcases hin z hz with ⟨ha, x, T, G', rfl, _, rfl, hT⟩ | ⟨ha, x, T, G', rfl, _, rfl, hT⟩
      · simp only [hT, wrapS hlt hl, fn_eq, evR, Nat.reduceAdd, Nat.reduceLT, Nat.reduceLeDiff, reduceIte, Nat.reduceEqDiff, reduceCtorEq, argEnv, eq_self, if_true, if_false]
        repeat' (first | (rw [guardK_cases]; split <;> simp only [hT, wrapS hlt hl, evR, Nat.reduceAdd, Nat.reduceLT, Nat.reduceLeDiff, reduceIte, Nat.reduceEqDiff, reduceCtorEq, argEnv, eq_self, if_true, if_false, *]) | (rw [condK_bool]; split <;> simp only [hT, wrapS hlt hl, evR, Nat.reduceAdd, Nat.reduceLT, Nat.reduceLeDiff, reduceIte, Nat.reduceEqDiff, reduceCtorEq, argEnv, eq_self, if_true, if_false, *]))
        exact Sc.next ha (by rfl)
      · simp only [hT, fn_eq, evR, Nat.reduceAdd, Nat.reduceLT, Nat.reduceLeDiff, reduceIte, Nat.reduceEqDiff, reduceCtorEq, argEnv, eq_self, if_true, if_false]
        repeat' (first | (rw [guardK_cases]; split <;> simp only [hT, evR, Nat.reduceAdd, Nat.reduceLT, Nat.reduceLeDiff, reduceIte, Nat.reduceEqDiff, reduceCtorEq, argEnv, eq_self, if_true, if_false, *]) | (rw [condK_bool]; split <;> simp only [hT, evR, Nat.reduceAdd, Nat.reduceLT, Nat.reduceLeDiff, reduceIte, Nat.reduceEqDiff, reduceCtorEq, argEnv, eq_self, if_true, if_false, *]))
        exact Sc.ret ha ⟨rfl, hT⟩)
    (fun E G hE => by
      simp only [c5_l1, hE, h1, Int.lt_irrefl, evW, fn_eq, evR, Nat.reduceAdd, Nat.reduceLT, Nat.reduceLeDiff, reduceIte, Nat.reduceEqDiff, reduceCtorEq, argEnv, eq_self, if_true, if_false]
      repeat' (first | (rw [guardK_cases]; split <;> simp only [c5_l1, hE, h1, Int.lt_irrefl, evW, evR, Nat.reduceAdd, Nat.reduceLT, Nat.reduceLeDiff, reduceIte, Nat.reduceEqDiff, reduceCtorEq, argEnv, eq_self, if_true, if_false, *]) | (rw [condK_bool]; split <;> simp only [c5_l1, hE, h1, Int.lt_irrefl, evW, evR, Nat.reduceAdd, Nat.reduceLT, Nat.reduceLeDiff, reduceIte, Nat.reduceEqDiff, reduceCtorEq, argEnv, eq_self, if_true, if_false, *]) | (rw [guardD_cases]; split <;> simp only [c5_l1, hE, h1, Int.lt_irrefl, evW, evR, Nat.reduceAdd, Nat.reduceLT, Nat.reduceLeDiff, reduceIte, Nat.reduceEqDiff, reduceCtorEq, argEnv, eq_self, if_true, if_false, *]))
      exact .exit ⟨rfl, by rfl⟩) st G hE hH z hz
theorem Fine.ordered {F : Int} {m : Nat} : ∀ (us : List (List Fld)) (rows : List Row), Fine F m rows → Fine F m (ordered F rows us).1
  | [], _, h => h
  | l :: us, _, h => Fine.ordered us _ (h.step l)
theorem f5 (F : Int) (rows : List Row) (hl : rows.length < 9223372036854775807) (hvl : ∀ r ∈ rows, r.2.length < 9223372036854775807) (l m : List Fld) (hul : l.length < 9223372036854775807) (hum : m.length < 9223372036854775807) (H : Heap) :
    ∃ H', evFn (evC cprog) itLim c5 [.agg [.int .i64 F, .lst (rows.map rRow)], eUnit l, eUnit m] H = some (.bool true, H') := by
  have h17 := fun H => f17 F rows hl hvl _ H (.lst H rows)
  have h18 := fun l h H => f19 l h H
  have h19l := fun H => f19 l hul H
  have h19m := fun H => f19 m hum H
  have hlp := l5_1 (.ptr H.length 0 2 0 0) l m hul hum H [⟨0, true, 24, 2, [[.int .i64 F, .lst (rows.map rRow)]]⟩]
  by_cases hg : valid (F, rows) = true ∧ isUnit l = true ∧ isUnit m = true
  · obtain ⟨hv, hil, him⟩ := hg
    simp only [hv] at h17
    simp only [hil] at h19l
    simp only [him] at h19m
    simp only [c5, h17, h19l, h19m, f11, cells_tab, isTup_tab, evW, fn_eq, evR, Nat.reduceAdd, Nat.reduceLT, Nat.reduceLeDiff, reduceIte, Nat.reduceEqDiff, reduceCtorEq, argEnv, eq_self, if_true, if_false]
    repeat' (first | (rw [guardK_cases]; split <;> simp only [c5, h17, h19l, h19m, f11, cells_tab, isTup_tab, evW, evR, Nat.reduceAdd, Nat.reduceLT, Nat.reduceLeDiff, reduceIte, Nat.reduceEqDiff, reduceCtorEq, argEnv, eq_self, if_true, if_false, *]) | (rw [condK_bool]; split <;> simp only [c5, h17, h19l, h19m, f11, cells_tab, isTup_tab, evW, evR, Nat.reduceAdd, Nat.reduceLT, Nat.reduceLeDiff, reduceIte, Nat.reduceEqDiff, reduceCtorEq, argEnv, eq_self, if_true, if_false, *]) | (rw [guardD_cases]; split <;> simp only [c5, h17, h19l, h19m, f11, cells_tab, isTup_tab, evW, evR, Nat.reduceAdd, Nat.reduceLT, Nat.reduceLeDiff, reduceIte, Nat.reduceEqDiff, reduceCtorEq, argEnv, eq_self, if_true, if_false, *]))
    generalize hz : itLim _ _ = z
    rcases hlp [] _ (by rfl) (by simp) z hz with ⟨ha, x, T, G, rfl, _, rfl, hT⟩ | ⟨ha, x, T, G, rfl, _, rfl, hT⟩
    · have hk : ∀ c ∈ l, ∀ d ∈ m, c.key ≠ d.key := fun c hc d hd => by
        have h1 := List.all_eq_true.1 ha c hc
        unfold apart1 at h1
        simpa using List.all_eq_true.1 h1 d hd
      obtain ⟨ho, a, b, hlm, hml⟩ := units_far F rows hk
      have hask : ∀ l m, isUnit l = true → isUnit m = true → asked (F, rows) [l, m] = 0 := fun l m h1 h2 => by simp [asked, hv, h1, h2]
      have horder : ∀ l m, isUnit l = true → isUnit m = true → orders F rows [l, m] = ((F, (ordered F rows [l, m]).1), (ordered F rows [l, m]).2, 0) := fun l m h1 h2 => by simp [orders, hask l m h1 h2]
      have h23 : ∀ (l m : List Fld) (K : Heap), l.length < 9223372036854775807 → m.length < 9223372036854775807 → cal (evC cprog) true 23 [.agg [.int .i64 F, .lst (rows.map rRow)], .ref (H.length + K.length) 0 1 0 2] (H ++ (K ++ [⟨0, true, 25, 1, [[eUnit l], [eUnit m]]⟩])) = _ := fun l m K h1 h2 =>
        f23 F rows hl hvl [l, m] _ _ (.ref (b := H.length + K.length) (v := 0) (off := 0) (rows := [[eUnit l], [eUnit m]]) (k := ⟨0, true, 25, 1, [[eUnit l], [eUnit m]]⟩) (by simp only [curBlk_eq, at_app, at_app0]; rfl) fun i row hi => by
          rw [Nat.zero_add]
          refine ⟨?_, hi⟩
          have := List.mem_of_getElem? hi
          simp at this
          rcases this with rfl | rfl <;> rfl) (by simp) (by simp [h1, h2])
      have ha1 := h23 l m ([⟨0, true, 24, 2, [[.int .i64 F, .lst (rows.map rRow)]]⟩] ++ G) hul hum
      have ha2 := h23 m l ([⟨0, true, 24, 2, [[.int .i64 F, .lst (rows.map rRow)]]⟩] ++ G ++ [⟨0, true, 25, 1, [[eUnit l], [eUnit m]]⟩, ⟨0, true, 24, 2, [[.int .i64 F, .lst ((ordered F rows [l, m]).1.map rRow)]]⟩]) hum hul
      rw [horder l m hil him] at ha1
      rw [horder m l him hil] at ha2
      rw [← ho, hml] at ha2
      rw [hlm] at ha1
      simp only [evR, Nat.reduceAdd, Nat.reduceLT, Nat.reduceLeDiff, reduceIte, Nat.reduceEqDiff, reduceCtorEq, argEnv, eq_self, if_true, if_false] at ha1 ha2
      have hlen : (ordered F rows [l, m]).1.length < 9223372036854775807 ∧ ∀ r ∈ (ordered F rows [l, m]).1, r.2.length < 9223372036854775807 := by
        have hf := (asked_fine (hask l m hil him)).ordered [l, m]
        have hF := asked_F (hask l m hil him)
        exact ⟨by rw [hf.len]; exact hl, fun r hr => by have := (hf.good r hr).1; omega⟩
      have n0 : asNat (.int .i64 0) = some 0 := rfl
      have n1 : asNat (.int .i64 1) = some 1 := rfl
      have hbb : ∀ b : Bool, (b == b) = true := fun b => by cases b <;> rfl
      have lfp : ∀ (H : Heap) (a : AV), loadK false 1 H (some (.fptr [a])) = some a := fun _ _ => rfl
      have hc2 : (((2 : Nat) : Int) = 2) = True := by simp
      have h20 := fun H => f20 F F (ordered F rows [l, m]).1 (ordered F rows [l, m]).1 _ _ H (.lst H _) (.lst H _) hlen.1 hlen.2
      rw [tell_pos ⟨rfl, rfl⟩] at h20
      simp only [hT, ha1, ha2, h20, f11, hc2, n0, n1, hbb, lfp, cells_tab, isTup_tab, cells_unit, isTup_unit, List.map_cons, List.map_nil, rBool, evW, fn_eq, evR, Nat.reduceAdd, Nat.reduceLT, Nat.reduceLeDiff, reduceIte, Nat.reduceEqDiff, reduceCtorEq, argEnv, eq_self, if_true, if_false]
      repeat' (first | (rw [guardK_cases]; split <;> simp only [hT, ha1, ha2, h20, f11, hc2, n0, n1, hbb, lfp, cells_tab, isTup_tab, cells_unit, isTup_unit, List.map_cons, List.map_nil, rBool, evW, evR, Nat.reduceAdd, Nat.reduceLT, Nat.reduceLeDiff, reduceIte, Nat.reduceEqDiff, reduceCtorEq, argEnv, eq_self, if_true, if_false, *]) | (rw [condK_bool]; split <;> simp only [hT, ha1, ha2, h20, f11, hc2, n0, n1, hbb, lfp, cells_tab, isTup_tab, cells_unit, isTup_unit, List.map_cons, List.map_nil, rBool, evW, evR, Nat.reduceAdd, Nat.reduceLT, Nat.reduceLeDiff, reduceIte, Nat.reduceEqDiff, reduceCtorEq, argEnv, eq_self, if_true, if_false, *]) | (rw [guardD_cases]; split <;> simp only [hT, ha1, ha2, h20, f11, hc2, n0, n1, hbb, lfp, cells_tab, isTup_tab, cells_unit, isTup_unit, List.map_cons, List.map_nil, rBool, evW, evR, Nat.reduceAdd, Nat.reduceLT, Nat.reduceLeDiff, reduceIte, Nat.reduceEqDiff, reduceCtorEq, argEnv, eq_self, if_true, if_false, *]))
      exact ⟨_, rfl⟩
    · simp only [hT, evW, fn_eq, evR, Nat.reduceAdd, Nat.reduceLT, Nat.reduceLeDiff, reduceIte, Nat.reduceEqDiff, reduceCtorEq, argEnv, eq_self, if_true, if_false]
      repeat' (first | (rw [guardK_cases]; split <;> simp only [hT, evW, evR, Nat.reduceAdd, Nat.reduceLT, Nat.reduceLeDiff, reduceIte, Nat.reduceEqDiff, reduceCtorEq, argEnv, eq_self, if_true, if_false, *]) | (rw [condK_bool]; split <;> simp only [hT, evW, evR, Nat.reduceAdd, Nat.reduceLT, Nat.reduceLeDiff, reduceIte, Nat.reduceEqDiff, reduceCtorEq, argEnv, eq_self, if_true, if_false, *]) | (rw [guardD_cases]; split <;> simp only [hT, evW, evR, Nat.reduceAdd, Nat.reduceLT, Nat.reduceLeDiff, reduceIte, Nat.reduceEqDiff, reduceCtorEq, argEnv, eq_self, if_true, if_false, *]))
      exact ⟨_, rfl⟩
  · simp only [c5, h17, h19l, h19m, f11, cells_tab, isTup_tab, evW, fn_eq, evR, Nat.reduceAdd, Nat.reduceLT, Nat.reduceLeDiff, reduceIte, Nat.reduceEqDiff, reduceCtorEq, argEnv, eq_self, if_true, if_false]
    repeat' (first | (rw [guardK_cases]; split <;> simp only [c5, h17, h19l, h19m, f11, cells_tab, isTup_tab, evW, evR, Nat.reduceAdd, Nat.reduceLT, Nat.reduceLeDiff, reduceIte, Nat.reduceEqDiff, reduceCtorEq, argEnv, eq_self, if_true, if_false, *]) | (rw [condK_bool]; split <;> simp only [c5, h17, h19l, h19m, f11, cells_tab, isTup_tab, evW, evR, Nat.reduceAdd, Nat.reduceLT, Nat.reduceLeDiff, reduceIte, Nat.reduceEqDiff, reduceCtorEq, argEnv, eq_self, if_true, if_false, *]) | (rw [guardD_cases]; split <;> simp only [c5, h17, h19l, h19m, f11, cells_tab, isTup_tab, evW, evR, Nat.reduceAdd, Nat.reduceLT, Nat.reduceLeDiff, reduceIte, Nat.reduceEqDiff, reduceCtorEq, argEnv, eq_self, if_true, if_false, *]))
    all_goals first | exact ⟨_, rfl⟩ | (exfalso; simp_all; done)
end Go.Proofs.Ytehcdcnghcbimaa.Code
namespace Go.Proofs.Ytehcdcnghcbimaa.Pure
open Go.Proofs.Ytehcdcnghcbimaa.Ev Go.Proofs.Ytehcdcnghcbimaa.Code
theorem FastApart (a0 : AV) (t0 : ArgTy true [.int .i64, .sl [.str, .sl [.int .i64]]] a0) (a1 : AV) (t1 : ArgTy false [.sl [.str, .int .i64, .str, .int .i64]] a1) (a2 : AV) (t2 : ArgTy false [.sl [.str, .int .i64, .str, .int .i64]] a2) : ∃ H', evC cprog 5 [a0, a1, a2] [] = some (.bool true, H') := by
  obtain ⟨F, rows, rfl, h1, h2⟩ := open_table t0
  obtain ⟨l, rfl, h3⟩ := open_unit t1
  obtain ⟨m, rfl, h4⟩ := open_unit t2
  unfold reachBytes at h1 h2 h3 h4
  rw [evC_fn at5]
  exact f5 F rows (by omega) (fun r hr => by have := h2 r hr; omega) l m (by omega) (by omega) []
end Go.Proofs.Ytehcdcnghcbimaa.Pure

/- The document's Order. -/
set_option linter.unusedSimpArgs false
set_option linter.unusedVariables false
namespace Go.Proofs.Ytehcdcnghcbimaa.Code
open Go.Proofs.Ytehcdcnghcbimaa.Ev

theorem valid_iff {F : Int} {rows : List Row} : valid (F, rows) = true ↔ (1 ≤ F ∧ F ≤ 4 ∧ (rows.length : Int) ≤ 20) ∧ ∀ (i : Nat) (r : Row), rows[i]? = some r → rowOk F rows i r = true := by
  simp only [valid, rowsOk, Bool.and_eq_true, decide_eq_true_eq, tell_true]
  constructor
  · rintro ⟨⟨⟨h1, h2⟩, h3⟩, h4⟩; exact ⟨⟨h1, h2, h3⟩, h4⟩
  · rintro ⟨⟨h1, h2, h3⟩, h4⟩; exact ⟨⟨⟨h1, h2⟩, h3⟩, h4⟩
theorem valid_good {F : Int} {rows : List Row} (h : valid (F, rows) = true) : GoodRows F rows := fun r hr => by
  obtain ⟨i, hi⟩ := List.getElem?_of_mem hr
  have := (valid_iff.1 h).2 i r hi
  simp only [rowOk, Bool.and_eq_true, decide_eq_true_eq] at this
  exact ⟨this.1.2, List.all_eq_true.1 this.2⟩
theorem valid_set {F : Int} {rows : List Row} (h : valid (F, rows) = true) {i : Nat} {r r' : Row} (hr : rows[i]? = some r) (hk : r'.1 = r.1) (hg : GoodRows F (rows.set i r')) : valid (F, rows.set i r') = true := by
  rw [valid_iff] at h ⊢
  refine ⟨by rw [List.length_set]; exact h.1, fun j s hs => ?_⟩
  have hil := (List.getElem?_eq_some_iff.1 hr).1
  have hkey : ∀ j, keyAt (rows.set i r') j = keyAt rows j := fun j => by
    unfold keyAt
    by_cases hj : j = i
    · subst hj; rw [List.getElem?_set_self hil, hr]; exact hk
    · rw [List.getElem?_set_ne (fun e => hj e.symm)]
  obtain ⟨s0, hs0, hsk⟩ : ∃ s0, rows[j]? = some s0 ∧ s.1 = s0.1 := by
    by_cases hj : j = i
    · subst hj; rw [List.getElem?_set_self hil] at hs; cases hs; exact ⟨r, hr, hk⟩
    · rw [List.getElem?_set_ne (fun e => hj e.symm)] at hs; exact ⟨s, hs, rfl⟩
  have h1 := h.2 j s0 hs0
  obtain ⟨g1, g2⟩ := hg s (List.mem_of_getElem? hs)
  simp only [rowOk, hkey, hsk, Bool.and_eq_true, decide_eq_true_eq] at h1 ⊢
  exact ⟨⟨h1.1.1, g1⟩, List.all_eq_true.2 g2⟩
theorem valid_after {F : Int} {rows : List Row} (h : valid (F, rows) = true) (c : Fld) : valid (F, after F rows c) = true := by
  have hg := (valid_good h).doOne c
  unfold after
  rcases doOne_cases F rows c with h1 | ⟨i, r, r', hr, _, hk, h1⟩
  · rw [h1]; exact h
  · rw [h1] at hg ⊢; exact valid_set h hr hk hg
theorem valid_run {F : Int} {rows : List Row} (h : valid (F, rows) = true) (l : List Fld) : valid (F, (runUnit F rows l).2) = true :=
  runIdx_inv (F := F) (fun r => valid (F, r) = true) (fun r c h => valid_after h c) l rows 0 h
theorem syncs_of {F : Int} {rows : List Row} {l : List Fld} (hv : valid (F, rows) = true) (hl : isUnit l = true) : syncs F rows l = if (runUnit F rows l).1 < 0 then ((F, (runUnit F rows l).2), 0) else ((0, []), 212) := by
  have : asked (F, rows) [l] = 0 := by simp [asked, hv, hl]
  simp only [syncs, this, if_true]
  by_cases h : (runUnit F rows l).1 < 0
  · rw [if_neg (by omega), if_pos h]
  · rw [if_pos (by omega), if_neg h]
theorem l24_0 (P2 P4 : AV) (us : List (List Fld)) (uv : AV) (H K G : Heap) (hs : SlAt H 1 uv (us.map rUnit)) (hul : us.length < 9223372036854775807) (hu : ∀ l ∈ us, l.length < 9223372036854775807) (b : Nat) (hb : P4 = .ptr (H.length + b) 0 2 0 0) (k4 : Blk) (hk4 : K[b]? = some k4) (hk : k4 = ⟨0, true, 24, 2, [[.int .i64 0, .nils]]⟩) (st : St)
    (hE : keepEnv st.1 [1, 2, 4, 7] = [(1, uv), (2, P2), (4, P4), (7, .int .i64 0)]) (hH : st.2 = H ++ (K ++ G)) (z : Option (CX × St)) (hz : itLim (evCode (evC cprog) itLim c24_l0) st = z) :
    (us.all isUnit = true ∧ Lv H K (fun x T => x = .exit 0 ∧ keepEnv T [1, 2, 4] = [(1, uv), (2, P2), (4, P4)]) z) ∨ (us.all isUnit = false ∧ Lv H K (fun x T => x = .ret ∧ get T 4 = some P4 ∧ get T 5 = some .nils ∧ get T 6 = some (.int .i64 211)) z) := by
  have h1 := hs.len
  simp only [List.length_map] at h1
  have hkb := (List.getElem?_eq_some_iff.1 hk4).1
  have hset : ∀ G, (H ++ (K ++ G)).set (H.length + b) k4 = H ++ (K ++ G) := fun G => by
    rw [set_app, List.set_append_left _ _ hkb]
    congr 2
    apply List.ext_getElem?
    intro j
    by_cases hj : j = b
    · subst hj; rw [List.getElem?_set_self hkb, hk4]
    · rw [List.getElem?_set_ne (fun e => hj e.symm)]
  have hat4 : ∀ G, (H ++ (K ++ G))[H.length + b]? = some k4 := fun G => by rw [at_app, List.getElem?_append_left hkb, hk4]
  subst hb
  subst hk
  exact all_rule us isUnit [1, 2, 4, 7] (fun k => [(1, uv), (2, P2), (4, .ptr (H.length + b) 0 2 0 0), (7, .int .i64 (k : Int))]) H K (evCode (evC cprog) itLim c24_l0) _ _
    (fun k l hk E G hE => by
      have hlt : k < us.length := (List.getElem?_eq_some_iff.1 hk).1
      have hi : (k : Int) < (us.length : Int) := by omega
      have h19 := fun H => f19 l (hu l (List.mem_of_getElem? hk)) H
      obtain ⟨_, p, hp, hat⟩ := hs.get k (rUnit l) (by rw [List.getElem?_map, hk]; rfl)
      simp only [c24_l0, hE, h1, hi, hp, hat.onex, h19, hat4, hset, wrapS hlt hul, evW, fn_eq, evR, Nat.reduceAdd, Nat.reduceLT, Nat.reduceLeDiff, reduceIte, Nat.reduceEqDiff, reduceCtorEq, argEnv, eq_self, if_true, if_false]
      repeat' (first | (rw [guardK_cases]; split <;> simp only [c24_l0, hE, h1, hi, hp, hat.onex, h19, hat4, hset, wrapS hlt hul, evW, evR, Nat.reduceAdd, Nat.reduceLT, Nat.reduceLeDiff, reduceIte, Nat.reduceEqDiff, reduceCtorEq, argEnv, eq_self, if_true, if_false, *]) | (rw [condK_bool]; split <;> simp only [c24_l0, hE, h1, hi, hp, hat.onex, h19, hat4, hset, wrapS hlt hul, evW, evR, Nat.reduceAdd, Nat.reduceLT, Nat.reduceLeDiff, reduceIte, Nat.reduceEqDiff, reduceCtorEq, argEnv, eq_self, if_true, if_false, *]) | (rw [guardD_cases]; split <;> simp only [c24_l0, hE, h1, hi, hp, hat.onex, h19, hat4, hset, wrapS hlt hul, evW, evR, Nat.reduceAdd, Nat.reduceLT, Nat.reduceLeDiff, reduceIte, Nat.reduceEqDiff, reduceCtorEq, argEnv, eq_self, if_true, if_false, *]))
      all_goals first | exact Sc.next (by first | (simp_all [rUnit]; done) | (simp_all [rUnit]; intros; omega)) (by rfl) | exact Sc.ret (by first | (simp_all [rUnit]; done) | (simp_all [rUnit]; intros; omega)) ⟨rfl, by first | rfl | exact ⟨rfl, rfl, rfl⟩⟩ | exact Sc.exit (by first | (simp_all [rUnit]; done) | (simp_all [rUnit]; intros; omega)) ⟨rfl, rfl⟩)
    (fun E G hE => by
      simp only [c24_l0, hE, h1, Int.lt_irrefl, evW, fn_eq, evR, Nat.reduceAdd, Nat.reduceLT, Nat.reduceLeDiff, reduceIte, Nat.reduceEqDiff, reduceCtorEq, argEnv, eq_self, if_true, if_false]
      repeat' (first | (rw [guardK_cases]; split <;> simp only [c24_l0, hE, h1, Int.lt_irrefl, evW, evR, Nat.reduceAdd, Nat.reduceLT, Nat.reduceLeDiff, reduceIte, Nat.reduceEqDiff, reduceCtorEq, argEnv, eq_self, if_true, if_false, *]) | (rw [condK_bool]; split <;> simp only [c24_l0, hE, h1, Int.lt_irrefl, evW, evR, Nat.reduceAdd, Nat.reduceLT, Nat.reduceLeDiff, reduceIte, Nat.reduceEqDiff, reduceCtorEq, argEnv, eq_self, if_true, if_false, *]) | (rw [guardD_cases]; split <;> simp only [c24_l0, hE, h1, Int.lt_irrefl, evW, evR, Nat.reduceAdd, Nat.reduceLT, Nat.reduceLeDiff, reduceIte, Nat.reduceEqDiff, reduceCtorEq, argEnv, eq_self, if_true, if_false, *]))
      exact .exit ⟨rfl, by rfl⟩) st G hE hH z hz
end Go.Proofs.Ytehcdcnghcbimaa.Code

