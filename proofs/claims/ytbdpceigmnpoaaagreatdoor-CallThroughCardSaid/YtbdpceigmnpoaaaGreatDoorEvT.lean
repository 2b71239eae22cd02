/- The functions of the package slices, once for all types. -/
import Derived.Test.YtbdpceigmnpoaaaGreatDoorEvS
set_option linter.unusedSimpArgs false
set_option linter.unusedVariables false
namespace Go.Proofs.YtbdpceigmnpoaaaGreatDoor.Ev

/-- the first index, or -1 -/
def idxOf {α : Type} (p : α → Bool) (l : List α) : Int := match l.findIdx? p with
  | some i => (i : Int)
  | none => -1

def cIndexFunc_l0 (sz : Nat) (ag : Bool) (test : CO) : CC :=
      (.seq
       (.region [0, 1, 7, 8] [⟨(some 9), .bin .lss (.t 8) (.t 7), none, [], []⟩])
       (.seq
        (.cond (.t 9)
         .skip
         (.exit 0))
        (.seq
         (.block 1
          (.seq
           (.region [0, 1, 7, 8] [⟨(some 10), .mv (.t 8), none, [], []⟩,
             ⟨(some 5), .mv (.t 10), none, [], []⟩])
           (.seq
            (.region [0, 1, 5, 7, 8] [⟨(some 11), .mv (.t 1), none, [], []⟩,
              ⟨(some 12), .mv (.t 0), none, [], []⟩,
              ⟨(some 13), .mv (.t 5), none, [], []⟩,
              ⟨(some 14), .iaddr sz (.t 12) (.t 13), none, [], []⟩,
              ⟨(some 15), .load ag sz (.t 14), none, [], []⟩,
              ⟨(some 16), test, none, [], []⟩])
            (.cond (.t 16)
             (.seq
              (.region [5] [⟨(some 17), .mv (.t 5), none, [], []⟩,
                ⟨(some 4), .mv (.t 17), none, [], []⟩])
              .ret)
             .skip))))
         (.region [0, 1, 7, 8] [⟨(some 18), .bin .add (.t 8) (.c (.int .i64 1)), none, [], []⟩,
           ⟨(some 8), .mv (.t 18), none, [], []⟩]))))
def cIndexFunc (sz : Nat) (ag : Bool) (test : CO) : CFn := ⟨19, [.t 4],
 (.seq
  (.region [0, 1] [⟨(some 4), .mv (.c (.int .i64 0)), none, [], []⟩])
  (.seq
   (.seq
    (.region [0, 1] [⟨(some 6), .mv (.t 0), none, [], []⟩,
      ⟨(some 7), .len false (.t 6), none, [], []⟩,
      ⟨(some 8), .mv (.c (.int .i64 0)), none, [], []⟩])
    (.block 0
     (.loop (cIndexFunc_l0 sz ag test))))
   (.seq
    (.region [] [⟨(some 4), .mv (.c (.int .i64 (-1))), none, [], []⟩])
    .ret))), false, false⟩

section
variable {cprog : Nat → Option CFn}
/-- a place that holds a row -/
def PtrAt (H : Heap) (p : AV) (row : List AV) : Prop :=
  p = .fptr row ∨ ∃ b v s i k, p = .ptr b v s i 0 ∧ curBlk H b v s = some k ∧ k.els[i]? = some row
def fld (p : AV) (off : Nat) : AV := match p with
  | .fptr cs => .fptr (cs.drop off)
  | .ptr b v s i o => .ptr b v s i (o + off)
  | p => p
theorem PtrAt.agg {H : Heap} {p : AV} {row : List AV} (h : PtrAt H p row) {n : Nat} (hn : row.length = n) : loadK true n H (some p) = some (.agg row) := by
  subst hn
  rcases h with rfl | ⟨b, v, s, i, k, rfl, h1, h2⟩
  · simp [loadK, evLoad]
  · simp [loadK, evLoad, h1, h2]
theorem PtrAt.one {H : Heap} {p x : AV} (h : PtrAt H p [x]) : loadK false 1 H (some p) = some x := by
  rcases h with rfl | ⟨b, v, s, i, k, rfl, h1, h2⟩
  · simp [loadK, evLoad]
  · simp [loadK, evLoad, h1, h2]
theorem PtrAt.faddr {H : Heap} {p : AV} {row : List AV} (h : PtrAt H p row) (off : Nat) : faddrK off (some p) = some (fld p off) := by
  rcases h with rfl | ⟨b, v, s, i, k, rfl, h1, h2⟩ <;> rfl
theorem PtrAt.fld {H : Heap} {p : AV} {row : List AV} (h : PtrAt H p row) (off sz : Nat) : loadK false sz H (some (fld p off)) = row[off]? := by
  rcases h with rfl | ⟨b, v, s, i, k, rfl, h1, h2⟩
  · simp [loadK, evLoad, Ev.fld]
  · simp [loadK, evLoad, Ev.fld, h1, h2]
/-- a slice that has these rows -/
structure SlAt (H : Heap) (sz : Nat) (a : AV) (rows : List (List AV)) : Prop where
  len : lenK false (some a) = some (.int .i64 (rows.length : Int))
  get : ∀ (i : Nat) row, rows[i]? = some row → row.length = sz ∧ ∃ p, iaddrK sz (some a) (some (.int .i64 (i : Int))) = some p ∧ PtrAt H p row
theorem SlAt.lst {H : Heap} {sz : Nat} {rows : List (List AV)} (h : ∀ r ∈ rows, r.length = sz) : SlAt H sz (.lst rows) rows := by
  refine ⟨rfl, fun i row hi => ⟨h row (List.mem_of_getElem? hi), .fptr row, ?_, .inl rfl⟩⟩
  rw [iaddr_lst, asNat_cast, atK_some, hi, rowK_some, if_pos (h row (List.mem_of_getElem? hi))]
theorem SlAt.ref {H : Heap} {sz b v off : Nat} {rows : List (List AV)} {k : Blk} (hk : curBlk H b v sz = some k) (hr : ∀ (i : Nat) row, rows[i]? = some row → row.length = sz ∧ k.els[off + i]? = some row) :
    SlAt H sz (.ref b v sz off rows.length) rows := by
  refine ⟨rfl, fun i row hi => ⟨(hr i row hi).1, .ptr b v sz (off + i) 0, ?_, .inr ⟨b, v, sz, off + i, k, rfl, hk, (hr i row hi).2⟩⟩⟩
  have : i < rows.length := (List.getElem?_eq_some_iff.1 hi).1
  rw [iaddr_ref, asNat_cast, refK_some, if_pos ⟨this, rfl⟩]
/-- how an element comes out of its row -/
def Loads (ag : Bool) (sz : Nat) (row : List AV) (v : AV) : Prop := row.length = sz ∧ (if ag = true then v = .agg row else sz = 1 ∧ row = [v])
theorem Loads.load {ag : Bool} {sz : Nat} {row : List AV} {v : AV} (h : Loads ag sz row v) {H : Heap} {p : AV} (hp : PtrAt H p row) : loadK ag sz H (some p) = some v := by
  obtain ⟨h1, h2⟩ := h
  cases ag with
  | true =>
    simp only [if_true] at h2
    subst h2
    exact hp.agg h1
  | false =>
    simp only [Bool.false_eq_true, if_false] at h2
    obtain ⟨h3, h2⟩ := h2
    subst h2
    rw [h3]; exact hp.one

theorem indexFunc_at {f : Nat} {sz : Nat} {ag : Bool} {test : CO} (hat : cprog f = some (cIndexFunc sz ag test)) {α : Type} (row : α → List AV) (val : α → AV) (hrow : ∀ x, Loads ag sz (row x) (val x)) (key : AV)
    (p : α → Bool) (H : Heap) (a : AV) (l : List α) (ha : SlAt H sz a (l.map row)) (hl : l.length < 9223372036854775807)
    (hp : ∀ x ∈ l, ∀ T : Env, get T 11 = some key → get T 15 = some (val x) → evOp (evC cprog) T H test = some (.bool (p x), H)) :
    cal (evC cprog) false f [a, key] H = some (.int .i64 (idxOf p l), H) := by
  rw [cal_of hat]
  simp only [cIndexFunc, fn_eq, ha.len, evR, Nat.reduceAdd, Nat.reduceLT, Nat.reduceLeDiff, reduceIte, Nat.reduceEqDiff, reduceCtorEq, argEnv, eq_self, if_true, if_false]
  have L := loop_rule (σ := Nat) (m := [0, 1, 7, 8]) (env := fun i => [(0, a), (1, key), (7, .int .i64 ((l.map row).length : Int)), (8, .int .i64 (i : Int))]) (hp := fun _ => H)
    (P := fun i r => r.2.2 = H ∧ match (l.drop i).findIdx? p with
      | some j => r.1 = .ret ∧ get r.2.1 4 = some (.int .i64 ((i + j : Nat) : Int))
      | none => r.1 = .exit 0) (mu := fun i => l.length - i) (I := fun i => i ≤ l.length)
    (evCode (evC cprog) itLim (cIndexFunc_l0 sz ag test)) ?_
  · generalize hz : itLim _ _ = z
    obtain ⟨⟨e, T', H'⟩, rfl, hH, hP⟩ := L 0 _ (Nat.zero_le _) (by rfl) (by rfl) _ hz
    simp only at hH
    subst hH
    rw [List.drop_zero] at hP
    unfold idxOf
    cases hx : l.findIdx? p with
    | none =>
      simp only [hx] at hP
      subst hP
      simp only [evR, Nat.reduceAdd, Nat.reduceLT, Nat.reduceLeDiff, reduceIte, Nat.reduceEqDiff, reduceCtorEq, argEnv, eq_self, if_true, if_false]
    | some j =>
      simp only [hx] at hP
      obtain ⟨rfl, h4⟩ := hP
      simp only [evR, Nat.reduceAdd, Nat.reduceLT, Nat.reduceLeDiff, reduceIte, Nat.reduceEqDiff, reduceCtorEq, argEnv, eq_self, if_true, if_false, h4, Nat.zero_add]
  · intro i hi E hE
    by_cases hlt : i < l.length
    · obtain ⟨x, hx⟩ : ∃ x, l[i]? = some x := ⟨_, List.getElem?_eq_getElem hlt⟩
      have hm : x ∈ l := List.mem_of_getElem? hx
      have hd : l.drop i = x :: l.drop (i + 1) := by
        rw [List.drop_eq_getElem_cons hlt]
        rw [List.getElem?_eq_getElem hlt] at hx
        cases hx; rfl
      have hi1 : (i : Int) < ((l.map row).length : Int) := by rw [List.length_map]; omega
      obtain ⟨_, q, hq, hat⟩ := ha.get i (row x) (by rw [List.getElem?_map, hx]; rfl)
      have hpx := fun T h1 h2 => hp x hm T h1 h2
      have hw : IntKind.i64.wrap ((i : Int) + 1) = ((i + 1 : Nat) : Int) := by rw [wrap_i64 (by omega) (by omega)]; rfl
      cases hpp : p x with
      | true =>
        simp only [cIndexFunc_l0, hE, hi1, hq, (hrow x).load hat, hpx, hpp, evR, Nat.reduceAdd, Nat.reduceLT, Nat.reduceLeDiff, reduceIte, Nat.reduceEqDiff, reduceCtorEq, argEnv, eq_self, if_true, if_false]
        exact q_ret ⟨rfl, by simp [hd, List.findIdx?_cons, hpp, get]⟩
      | false =>
        simp only [cIndexFunc_l0, hE, hi1, hq, (hrow x).load hat, hpx, hpp, evR, Nat.reduceAdd, Nat.reduceLT, Nat.reduceLeDiff, reduceIte, Nat.reduceEqDiff, reduceCtorEq, argEnv, eq_self, if_true, if_false]
        exact q_next (i + 1) (by simp only [hw, evR, Nat.reduceAdd, Nat.reduceLT, Nat.reduceLeDiff, reduceIte, Nat.reduceEqDiff, reduceCtorEq, argEnv, eq_self, if_true, if_false]) rfl (by omega) (by omega) (fun r ⟨h1, h2⟩ => ⟨h1, by
          rw [hd]
          simp only [List.findIdx?_cons, hpp, Bool.false_eq_true, if_false]
          cases hx : (l.drop (i + 1)).findIdx? p with
          | none => rw [hx] at h2; exact h2
          | some j =>
            rw [hx] at h2
            refine ⟨h2.1, h2.2.trans ?_⟩
            simp only [Option.map_some]
            congr 3
            omega⟩)
    · have hi1 : ¬ (i : Int) < ((l.map row).length : Int) := by rw [List.length_map]; omega
      simp only [cIndexFunc_l0, hE, hi1, evR, Nat.reduceAdd, Nat.reduceLT, Nat.reduceLeDiff, reduceIte, Nat.reduceEqDiff, reduceCtorEq, argEnv, eq_self, if_true, if_false]
      exact q_exit ⟨rfl, by rw [List.drop_eq_nil_of_le (by omega)]; rfl⟩

def tFunc : CO := .call (.t 11) [(.t 15)] false
def tEq : CO := .bin .eql (.t 11) (.t 15)
theorem indexFunc_ok {f : Nat} {sz : Nat} {ag : Bool} (hat : cprog f = some (cIndexFunc sz ag tFunc)) {α : Type} (row : α → List AV) (val : α → AV) (hrow : ∀ x, Loads ag sz (row x) (val x)) (g : Nat) (caps : List AV)
    (p : α → Bool) (H : Heap) (a : AV) (l : List α) (ha : SlAt H sz a (l.map row)) (hl : l.length < 9223372036854775807) (hp : ∀ x ∈ l, cal (evC cprog) false g (capArgs caps [val x]) H = some (.bool (p x), H)) :
    cal (evC cprog) false f [a, .fn g caps] H = some (.int .i64 (idxOf p l), H) := by
  refine indexFunc_at hat row val hrow _ p H a l ha hl fun x hx T h1 h2 => ?_
  simp only [tFunc, h1, h2, hp x hx, evR, Nat.reduceAdd, Nat.reduceLT, Nat.reduceLeDiff, reduceIte, Nat.reduceEqDiff, reduceCtorEq, argEnv, eq_self, if_true, if_false]
theorem index_ok {f : Nat} (hat : cprog f = some (cIndexFunc 1 false tEq)) (s : ByteArray) (H : Heap) (a : AV) (l : List ByteArray) (ha : SlAt H 1 a (l.map fun x => [.str x])) (hl : l.length < 9223372036854775807) :
    cal (evC cprog) false f [a, .str s] H = some (.int .i64 (idxOf (fun x => decide (s = x)) l), H) := by
  refine indexFunc_at hat (fun x => [.str x]) .str (fun x => ⟨rfl, rfl, rfl⟩) _ _ H a l ha hl fun x hx T h1 h2 => ?_
  simp only [tEq, h1, h2, evR, Nat.reduceAdd, Nat.reduceLT, Nat.reduceLeDiff, reduceIte, Nat.reduceEqDiff, reduceCtorEq, argEnv, eq_self, if_true, if_false]

def cContainsFunc (g : Nat) : CFn := ⟨9, [.t 4],
 (.seq
  (.region [0, 1] [⟨(some 4), .mv (.c (.bool false)), none, [], []⟩])
  (.seq
   (.region [0, 1] [⟨(some 5), .mv (.t 0), none, [], []⟩,
     ⟨(some 6), .mv (.t 1), none, [], []⟩,
     ⟨(some 7), .call (.c (.fn g [])) [(.t 5), (.t 6)] false, none, [], []⟩,
     ⟨(some 8), .bin .geq (.t 7) (.c (.int .i64 0)), none, [], []⟩,
     ⟨(some 4), .mv (.t 8), none, [], []⟩])
   .ret)), false, false⟩
theorem idxOf_nonneg {α : Type} (p : α → Bool) (l : List α) : decide (0 ≤ idxOf p l) = l.any p := by
  unfold idxOf
  cases h : l.findIdx? p with
  | none =>
    have := List.findIdx?_eq_none_iff.1 h
    have e : l.any p = false := by
      rw [List.any_eq_false]
      intro x hx
      simp [this x hx]
    rw [e]; rfl
  | some i =>
    have : l.any p = true := by
      have h1 := List.findIdx?_isSome (p := p) (xs := l)
      rw [h] at h1
      exact h1.symm
    rw [this]
    simp
theorem containsFunc_ok {f g : Nat} (hat : cprog f = some (cContainsFunc g)) {a key : AV} {α : Type} {p : α → Bool} {H : Heap} {l : List α}
    (h : cal (evC cprog) false g [a, key] H = some (.int .i64 (idxOf p l), H)) : cal (evC cprog) false f [a, key] H = some (.bool (l.any p), H) := by
  rw [cal_of hat]
  simp only [cContainsFunc, fn_eq, h, idxOf_nonneg, evR, Nat.reduceAdd, Nat.reduceLT, Nat.reduceLeDiff, reduceIte, Nat.reduceEqDiff, reduceCtorEq, argEnv, eq_self, if_true, if_false]
end
end Go.Proofs.YtbdpceigmnpoaaaGreatDoor.Ev
