/- The operations that only read: what the evaluator says of them is what the machine does. -/
import Derived.Test.YtbdpceigmnpoaaaGreatDoorEvC
import Derived.Laws.Small
import Derived.Laws.Bits
import Derived.ChangeKeysEq
set_option linter.unusedSimpArgs false
set_option linter.unusedVariables false
namespace Go.Proofs.YtbdpceigmnpoaaaGreatDoor.Ev
open Go.RowKit

section inversions
variable {S : Sta} {u : Value}
theorem rep_int {k : IntKind} {n : Int} (h : RepV S (.int k n) u) : u = .int k n := by
  cases h with | one h => cases h with | s h => cases h with | frz h => cases h; rfl
theorem rep_bool {b : Bool} (h : RepV S (.bool b) u) : u = .bool b := by
  cases h with | one h => cases h with | s h => cases h with | frz h => cases h; rfl
theorem rep_str {s : ByteArray} (h : RepV S (.str s) u) : u = .string s := by
  cases h with | one h => cases h with | s h => cases h with | frz h => cases h; rfl
theorem rep_nils (h : RepV S .nils u) : u = .slice none 0 0 := by
  cases h with | one h => cases h with | s h => cases h with | frz h => cases h; rfl
theorem rep_emp (h : RepV S .emp u) : ∃ a cap, u = .slice (some a) 0 cap := by
  cases h with | one h => cases h with | s h => cases h with | frz h => cases h; exact ⟨_, _, rfl⟩
theorem rep_nil0 (h : RepV S .nil0 u) : ∃ a, u = .slice a 0 0 := by
  cases h with | one h => cases h with | s h => cases h with | frz h => cases h; exact ⟨_, rfl⟩
theorem rep_nilptr (h : RepV S .nilptr u) : u = .pointer none := by
  cases h with | one h => cases h with | s h => cases h with | frz h => cases h; rfl
theorem rep_nilfn (h : RepV S .nilfn u) : u = .nilFunc := by
  cases h with | one h => cases h with | s h => cases h with | frz h => cases h; rfl
theorem rep_lst {l : List (List AV)} (h : RepV S (.lst l) u) : (∃ a cap, u = .slice a l.length cap ∧ l.length ≤ cap ∧ (l ≠ [] → ∃ x, a = some x) ∧ (a = none → cap = 0)) := by
  cases h with
  | one h => cases h with
    | s h => cases h with
      | frz h => cases h with
        | lst0 a cap h => exact ⟨a, cap, rfl, Nat.zero_le _, by simp, h⟩
        | lst _ g off sz cap cur uu h1 h2 h3 => exact ⟨_, cap, rfl, h3, fun _ => ⟨_, rfl⟩, by simp⟩
theorem rep_ref {b v sz off len : Nat} (h : RepV S (.ref b v sz off len) u) : ∃ a cap k, u = .slice a len cap ∧ S.H[b]? = some k ∧ v ≤ k.ver ∧ len ≤ cap ∧ a.isSome = true ∧
    (k.live = true → k.ver = v → k.sz = sz → RefAt S b sz off len k a cap) := by
  cases h with
  | one h => cases h with
    | s h => cases h with
      | frz h => cases h
      | ref _ _ _ _ _ a cap k h1 h2 h3 h4 h5 => exact ⟨a, cap, k, rfl, h1, h2, h3, h4, h5⟩
theorem rep_cref {b v sz off len : Nat} (h : RepV S (.cref b v sz off len) u) : ∃ a k, u = .slice (some a) len len ∧ S.H[b]? = some k ∧ v ≤ k.ver ∧
    (k.live = true → k.ver = v → k.sz = sz → off + len ≤ k.els.length ∧ ∃ g rc, S.mu[b]? = some (g, rc) ∧ a = ⟨g, off * sz, none⟩) := by
  cases h with
  | one h => cases h with
    | s h => cases h with
      | frz h => cases h
      | cref _ _ _ _ _ a k h1 h2 h5 => exact ⟨a, k, rfl, h1, h2, h5⟩
theorem rep_ptr {b v sz i off : Nat} (h : RepV S (.ptr b v sz i off) u) : ∃ a k, u = .pointer (some a) ∧ S.H[b]? = some k ∧ v ≤ k.ver ∧
    (k.live = true → k.ver = v → k.sz = sz → ∃ g rc, S.mu[b]? = some (g, rc) ∧ a = ⟨g, i * sz + off, none⟩) := by
  cases h with
  | one h => cases h with
    | s h => cases h with
      | frz h => cases h
      | ptr _ _ _ _ _ a k h1 h2 h3 => exact ⟨a, k, rfl, h1, h2, h3⟩
theorem rep_fptr {cs : List AV} (h : RepV S (.fptr cs) u) : ∃ g off cur, ∃ uu : Nat → Value, u = .pointer (some ⟨g, off, none⟩) ∧ S.M g = some cur ∧ (∀ (c : Nat) (x : AV), cs[c]? = some x → cur[off + c]? = some (uu c)) ∧ (∀ (c : Nat) (x : AV), cs[c]? = some x → RepF S.M x (uu c)) := by
  cases h with
  | one h => cases h with
    | s h => cases h with
      | frz h => cases h with
        | fptr _ g off cur uu h1 h2 h3 => exact ⟨g, off, cur, uu, rfl, h1, h2, h3⟩
theorem rep_fn {f : Nat} {cap : List AV} (h : RepV S (.fn f cap) u) : (∃ vs : List Value, u = .func (.func f) #[] vs.toArray ∧ RepL S cap vs) ∨ ∃ (cs : List AV) (vs : List Value), cap = [.tup [], .agg cs] ∧ u = .func (.func f) #[.agg vs.toArray] #[] ∧ RepL S cs vs := by
  cases h with
  | one h => cases h with
    | s h => cases h with
      | frz h => cases h with
        | fn => exact .inl ⟨[], rfl, rfl, by simp⟩
        | bnd _ cs vs h1 h2 => exact .inr ⟨cs, vs, rfl, rfl, h1, fun i x v hx hv => .frz (h2 i x v hx hv)⟩
      | fn _ _ vs h1 h2 => exact .inl ⟨vs, rfl, h1, h2⟩
theorem rep_fn0 {f : Nat} {cap : List AV} (h : RepV S (.fn f cap) u) : ∃ fr ca : Array Value, u = .func (.func f) fr ca := by
  rcases rep_fn h with ⟨vs, h, _⟩ | ⟨cs, vs, _, h, _⟩
  · exact ⟨_, _, h⟩
  · exact ⟨_, _, h⟩
theorem rep_agg {cs : List AV} (h : RepV S (.agg cs) u) : ∃ vs : List Value, u = .agg vs.toArray ∧ RepL S cs vs := by
  cases h with
  | one h => cases h with
    | s h => cases h with
      | frz h => cases h
    | agg _ vs h => exact ⟨vs, rfl, h⟩
theorem rep_tup {cs : List AV} (h : RepV S (.tup cs) u) : ∃ vs : List Value, u = .tuple vs.toArray ∧ cs.length = vs.length ∧ ∀ (i : Nat) (x : AV) (v : Value), cs[i]? = some x → vs[i]? = some v → Rep1 S x v := by
  cases h with
  | one h => cases h with
    | s h => cases h with
      | frz h => cases h
  | tup _ vs h1 h2 => exact ⟨vs, rfl, h1, h2⟩
theorem rep1_of {a : AV} (h : RepV S a u) (ht : a.isTup = false) : Rep1 S a u := by
  cases h with
  | one h => exact h
  | tup => simp [AV.isTup] at ht
theorem rep1_cells {a : AV} (h : Rep1 S a u) : RepL S a.cells u.cells.toList := by
  cases h with
  | s h =>
    have : a.cells = [a] := by
      cases h with
      | frz h => cases h <;> rfl
      | _ => rfl
    have e : u.cells.toList = [u] := by
      have := h.oneCell
      cases u <;> simp_all [Value.cells, Value.oneCell']
    rw [this, e]
    refine ⟨rfl, fun i x v hx hv => ?_⟩
    cases i with
    | zero => simp at hx hv; subst hx; subst hv; exact h
    | succ i => simp at hx
  | agg cs vs h => simpa [AV.cells, Value.cells] using h
theorem repL_get {cs : List AV} {vs : List Value} (h : RepL S cs vs) {i : Nat} {x : AV} (hx : cs[i]? = some x) : ∃ v, vs[i]? = some v ∧ RepS S x v := by
  have hi := (List.getElem?_eq_some_iff.1 hx).1
  have : i < vs.length := by rw [← h.1]; exact hi
  exact ⟨vs[i], List.getElem?_eq_getElem this, h.2 i x _ hx (List.getElem?_eq_getElem this)⟩
theorem repL_seg {cs : List AV} {vs : List Value} (h : RepL S cs vs) (o n : Nat) : RepL S ((cs.drop o).take n) ((vs.drop o).take n) := by
  refine ⟨by simp [h.1], fun i x v hx hv => ?_⟩
  simp only [List.getElem?_take, List.getElem?_drop] at hx hv
  split at hx
  · rename_i hi
    rw [if_pos hi] at hv
    exact h.2 _ x v hx hv
  · cases hx
end inversions

theorem asNat_spec {a : AV} {n : Nat} (h : asNat a = some n) : ∃ k m, a = .int k m ∧ 0 ≤ m ∧ n = m.toNat := by
  unfold asNat at h
  split at h
  · rename_i k m
    split at h
    · cases h; exact ⟨k, m, rfl, ‹_›, rfl⟩
    · cases h
  · cases h

/-- an operation whose value is known and that leaves the world alone -/
def Gives (P : Program) (S : Sta) (w : World) (a : Act) (o : Oper) (x : AV) : Prop :=
  ∃ v, (execOp a.eval o).run P w = .ok (.value v) w ∧ RepV S x v

section ops
variable {P : Program} {S : Sta} {w : World} {B : Nat} {T : Env} {a : Act} {ss : List Nat} {o : Oper} {x : AV}

def okMv (P : Program) (op : Op) (y : COpd) : Bool :=
  match op with
  | .move x => okOpd x y
  | .assign x => okOpd x y
  | .call c => match c.callee with
    | .builtin .len => match c.argTypes.toList, c.args.toList, y with
      | [t], [_], .c (.int .i64 m) => match P.underlying t with
        | some (.array n _) => decide (m = (n : Int))
        | _ => false
      | _, _, _ => false
    | _ => false
  | _ => false
theorem mv_sound (hT : TRel S T a.tmps ss) {y : COpd} (ho : okMv P o.op y = true) (hs : ∀ t ∈ y.slots, t ∈ ss) (hx : evOpd T y = some x) : Gives P S w a o x := by
  unfold okMv at ho
  split at ho
  · rename_i z e
    exact ⟨a.eval z, by simp [execOp, e], opd_rep hT ho hs hx⟩
  · rename_i z e
    exact ⟨a.eval z, by simp [execOp, e], opd_rep hT ho hs hx⟩
  · rename_i c e
    split at ho
    · rename_i hc
      split at ho
      · rename_i t z m h1 h2
        split at ho
        · rename_i n _ hu
          simp only [decide_eq_true_eq] at ho
          simp only [evOpd, Option.some.injEq] at hx
          subst hx
          subst ho
          refine ⟨goInt n, ?_, .one (.s (.frz (.int _ _)))⟩
          have e1 : c.argTypes = #[t] := by rw [← Array.toArray_toList (xs := c.argTypes), h1]
          have e2 : c.args = #[z] := by rw [← Array.toArray_toList (xs := c.args), h2]
          simp [execOp, e, resolve, hc, invoke, builtin, Builtin.len_, e1, e2, run_underlying hu]
        · simp at ho
      · simp at ho
    · simp at ho
  · simp at ho

def okPick (op : Op) (c x y : COpd) : Bool :=
  match op with
  | .pick c' x' y' => okOpd c' c && okOpd x' x && okOpd y' y
  | _ => false
theorem pick_sound (hT : TRel S T a.tmps ss) {c y z : COpd} (ho : okPick o.op c y z = true) (hs : ∀ t ∈ c.slots ++ y.slots ++ z.slots, t ∈ ss)
    (hx : (match evOpd T c with | some (.bool true) => evOpd T y | some (.bool false) => evOpd T z | _ => none) = some x) : Gives P S w a o x := by
  unfold okPick at ho
  split at ho
  · rename_i c' x' y' e
    simp only [Bool.and_eq_true] at ho
    split at hx
    · rename_i h1
      have hb := rep_bool (opd_rep hT ho.1.1 (fun t ht => hs t (by simp [ht])) h1)
      exact ⟨a.eval x', by simp [execOp, e, hb, asBool], opd_rep hT ho.1.2 (fun t ht => hs t (by simp [ht])) hx⟩
    · rename_i h1
      have hb := rep_bool (opd_rep hT ho.1.1 (fun t ht => hs t (by simp [ht])) h1)
      exact ⟨a.eval y', by simp [execOp, e, hb, asBool], opd_rep hT ho.2 (fun t ht => hs t (by simp [ht])) hx⟩
    · cases hx
  · simp at ho

def okLoad (P : Program) (op : Op) (ag : Bool) (sz : Nat) (y : COpd) : Bool :=
  match op with
  | .load t z => okOpd z y && decide (sizeT P t = some sz) && decide (aggT P t = some ag)
  | _ => false
theorem loads_sound (hW : WRel S w B) (hT : TRel S T a.tmps ss) {ag : Bool} {sz : Nat} {y : COpd} (ho : okLoad P o.op ag sz y = true) (hs : ∀ t ∈ y.slots, t ∈ ss) {p : AV}
    (hy : evOpd T y = some p) (hx : evLoad ag sz S.H p = some x) : Gives P S w a o x := by
  unfold okLoad at ho
  split at ho
  · rename_i t z e
    simp only [Bool.and_eq_true, decide_eq_true_eq] at ho
    obtain ⟨ad, h1, v, h2, h3⟩ := load_sound hW (opd_rep hT ho.1.1 hs hy) ho.1.2 ho.2 hx
    exact ⟨v, by simp [execOp, e, Instr.loadAt, h1, Instr.sureAddr, h2], .one h3⟩
  · simp at ho

def okNilck (op : Op) (y : COpd) : Bool :=
  match op with
  | .nilCheck z => okOpd z y
  | _ => false
theorem nilck_sound (hT : TRel S T a.tmps ss) {y : COpd} (ho : okNilck o.op y = true) (hs : ∀ t ∈ y.slots, t ∈ ss)
    (hx : evPure T S.H (.nilck y) = some x) : Gives P S w a o x := by
  unfold okNilck at ho
  split at ho
  · rename_i z e
    simp only [evPure] at hx
    split at hx
    · rename_i h1
      cases hx
      have hr := opd_rep hT ho hs h1
      obtain ⟨ad, k, h2, _⟩ := rep_ptr hr
      refine ⟨a.eval z, ?_, hr⟩
      simp [execOp, e, h2]
    · rename_i h1
      cases hx
      have hr := opd_rep hT ho hs h1
      obtain ⟨g, off, cur, uu, h2, _⟩ := rep_fptr hr
      refine ⟨a.eval z, ?_, hr⟩
      simp [execOp, e, h2]
    · rename_i h1
      cases hx
      have hr := opd_rep hT ho hs h1
      obtain ⟨_, _, h2⟩ := rep_fn0 hr
      refine ⟨a.eval z, ?_, hr⟩
      simp [execOp, e, h2]
    · cases hx
  · simp at ho

def okBin (op' : Op) (op : BinOp) (y z : COpd) : Bool :=
  match op' with
  | .binOp op'' _ x' y' _ => decide (op'' = op) && okOpd x' y && okOpd y' z
  | _ => false
theorem run_evInt {op : BinOp} {k : IntKind} {m n : Int} {x : AV} (h : evInt op k m n = some x) (t : TypeId) (w : World) : ∃ v, (binOp op t (.int k m) (.int k n)).run P w = .ok v w ∧ RepV S x v := by
  have mk : ∀ (k : IntKind) (n : Int), RepV S (.int k n) (.int k n) := fun k n => .one (.s (.frz (.int k n)))
  have mb : ∀ (b : Bool), RepV S (.bool b) (.bool b) := fun b => .one (.s (.frz (.bool b)))
  cases op <;> simp only [evInt, Option.some.injEq, reduceCtorEq] at h
  case add => subst h; exact ⟨_, by simp [binOp, Op.intArith], mk _ _⟩
  case sub => subst h; exact ⟨_, by simp [binOp, Op.intArith], mk _ _⟩
  case mul => subst h; exact ⟨_, by simp [binOp, Op.intArith], mk _ _⟩
  case quo =>
    split at h
    · cases h
    · rename_i hn
      simp only [Option.some.injEq] at h
      subst h; exact ⟨_, by simp [binOp, Op.intDiv, hn], mk _ _⟩
  case rem =>
    split at h
    · cases h
    · rename_i hn
      simp only [Option.some.injEq] at h
      subst h; exact ⟨_, by simp [binOp, Op.intDiv, hn], mk _ _⟩
  case and => subst h; exact ⟨_, by simp [binOp, Op.intBits], mk _ _⟩
  case or => subst h; exact ⟨_, by simp [binOp, Op.intBits], mk _ _⟩
  case xor => subst h; exact ⟨_, by simp [binOp, Op.intBits], mk _ _⟩
  case andNot => subst h; exact ⟨_, by simp [binOp, Op.intBits], mk _ _⟩
  case eql => subst h; exact ⟨.bool (m == n), by simp [binOp, Op.intCmp], by rw [show (m == n) = decide (m = n) from rfl]; exact mb _⟩
  case neq => subst h; exact ⟨.bool (m != n), by simp [binOp, Op.intCmp], by rw [show (m != n) = !decide (m = n) from rfl]; exact mb _⟩
  case lss => subst h; exact ⟨_, by simp [binOp, Op.intCmp], mb _⟩
  case leq => subst h; exact ⟨_, by simp [binOp, Op.intCmp], mb _⟩
  case gtr => subst h; exact ⟨_, by simp [binOp, Op.intCmp], mb _⟩
  case geq => subst h; exact ⟨_, by simp [binOp, Op.intCmp], mb _⟩
theorem run_evStr {op : BinOp} {m n : ByteArray} {x : AV} (h : evStr op m n = some x) (t : TypeId) (w : World) : ∃ v, (binOp op t (.string m) (.string n)).run P w = .ok v w ∧ RepV S x v := by
  have ms : ∀ (s : ByteArray), RepV S (.str s) (.string s) := fun s => .one (.s (.frz (.str s)))
  have mb : ∀ (b : Bool), RepV S (.bool b) (.bool b) := fun b => .one (.s (.frz (.bool b)))
  cases op <;> simp only [evStr, Option.some.injEq, reduceCtorEq] at h
  case add =>
    split at h
    · rename_i hn
      simp only [Option.some.injEq] at h
      subst h
      have : ¬ (9223372036854775807 < (m.size : Int) + (n.size : Int)) := by omega
      exact ⟨.string (m ++ n), by simp [binOp, Op.stringOp, IntKind.max, IntKind.signed, IntKind.bits, this], ms _⟩
    · cases h
  case eql => subst h; exact ⟨_, by simp [binOp, Op.stringOp], mb _⟩
  case neq => subst h; exact ⟨_, by simp [binOp, Op.stringOp], mb _⟩
  case lss => subst h; exact ⟨_, by simp [binOp, Op.stringOp], mb _⟩
  case leq => subst h; exact ⟨_, by simp [binOp, Op.stringOp], mb _⟩
  case gtr => subst h; exact ⟨_, by simp [binOp, Op.stringOp], mb _⟩
  case geq => subst h; exact ⟨_, by simp [binOp, Op.stringOp], mb _⟩
theorem run_evBin {op : BinOp} {p q x : AV} {u v : Value} (hp : RepV S p u) (hq : RepV S q v) (h : evBin op p q = some x) (t : TypeId) (y z : Operand) (w : World) :
    ∃ r, (do eqGuard op t y z u v; binOp op t u v).run P w = .ok r w ∧ RepV S x r := by
  have mk : ∀ (k : IntKind) (n : Int), RepV S (.int k n) (.int k n) := fun k n => .one (.s (.frz (.int k n)))
  unfold evBin at h
  split at h
  · rename_i k m k' n
    rw [rep_int hp, rep_int hq]
    have hg : ∀ op, (eqGuard op t y z (.int k m) (.int k' n)).run P w = .ok () w := fun op => by cases op <;> simp [eqGuard]
    split at h
    · split at h
      · cases h
      · rename_i hn
        simp only [Option.some.injEq] at h
        subst h
        exact ⟨_, by simp [hg, binOp, Op.shift, hn], mk _ _⟩
    · split at h
      · cases h
      · rename_i hn
        simp only [Option.some.injEq] at h
        subst h
        exact ⟨_, by simp [hg, binOp, Op.shift, hn], mk _ _⟩
    · split at h
      · rename_i he
        subst he
        obtain ⟨r, hr, hr'⟩ := run_evInt (P := P) (S := S) h t w
        exact ⟨r, by simp [hg, hr], hr'⟩
      · cases h
  · rename_i m n
    rw [rep_str hp, rep_str hq]
    have hg : ∀ op, (eqGuard op t y z (.string m) (.string n)).run P w = .ok () w := fun op => by cases op <;> simp [eqGuard]
    obtain ⟨r, hr, hr'⟩ := run_evStr (P := P) (S := S) h t w
    exact ⟨r, by simp [hg, hr], hr'⟩
  · cases h
theorem bin_sound (hT : TRel S T a.tmps ss) {op : BinOp} {y z : COpd} (ho : okBin o.op op y z = true) (hs : ∀ t ∈ y.slots ++ z.slots, t ∈ ss) {p q : AV}
    (h1 : evOpd T y = some p) (h2 : evOpd T z = some q) (hx : evBin op p q = some x) : Gives P S w a o x := by
  unfold okBin at ho
  split at ho
  · rename_i op'' t x' y' _ e
    simp only [Bool.and_eq_true, decide_eq_true_eq] at ho
    obtain ⟨⟨rfl, h3⟩, h4⟩ := ho
    obtain ⟨r, hr, hr'⟩ := run_evBin (P := P) (opd_rep hT h3 (fun t ht => hs t (by simp [ht])) h1) (opd_rep hT h4 (fun t ht => hs t (by simp [ht])) h2) hx t x' y' w
    refine ⟨r, ?_, hr'⟩
    simp only [execOp, e]
    rw [Sem.run_bind, hr]
    simp
  · simp at ho

def okEqb (P : Program) (op' : Op) (neq : Bool) (y z : COpd) : Bool :=
  match op' with
  | .binOp op'' t x' y' _ => decide (op'' = if neq = true then .neq else .eql) && okOpd x' y && okOpd y' z && (match P.underlying t with | some .bool => true | _ => false)
  | _ => false
theorem eqb_sound (hT : TRel S T a.tmps ss) {neq : Bool} {y z : COpd} (ho : okEqb P o.op neq y z = true) (hs : ∀ t ∈ y.slots ++ z.slots, t ∈ ss) {p q : Bool}
    (h1 : evOpd T y = some (.bool p)) (h2 : evOpd T z = some (.bool q)) (hx : x = .bool (if neq = true then !(p == q) else p == q)) : Gives P S w a o x := by
  unfold okEqb at ho
  split at ho
  · rename_i op'' t x' y' _ e
    simp only [Bool.and_eq_true, decide_eq_true_eq] at ho
    obtain ⟨⟨⟨rfl, h3⟩, h4⟩, h5⟩ := ho
    have e1 := rep_bool (opd_rep hT h3 (fun t ht => hs t (by simp [ht])) h1)
    have e2 := rep_bool (opd_rep hT h4 (fun t ht => hs t (by simp [ht])) h2)
    have hu : P.underlying t = some .bool := by
      split at h5
      · assumption
      · simp at h5
    subst hx
    refine ⟨_, ?_, .one (.s (.frz (.bool _)))⟩
    cases neq
    · simp only [execOp, e, e1, e2, Bool.false_eq_true, if_false]
      have hg : (eqGuard .eql t x' y' (.bool p) (.bool q)).run P w = .ok () w := by simp [eqGuard]
      simp only [Sem.run_bind, hg, Result.andThen_ok, run_eql_bool w t p q hu, Sem.run_pure]
    · simp only [execOp, e, e1, e2, if_true]
      have hg : (eqGuard .neq t x' y' (.bool p) (.bool q)).run P w = .ok () w := by simp [eqGuard]
      simp only [Sem.run_bind, hg, Result.andThen_ok, run_neq_bool w t p q hu, Sem.run_pure]
  · simp at ho

def okNilT (P : Program) (t : TypeId) (kd : Nat) : Bool :=
  match P.underlying t, kd with
  | some (.pointer _), 0 => true
  | some (.slice _), 1 => true
  | some (.func _ _ _), 2 => true
  | _, _ => false
def okEqn (P : Program) (op' : Op) (neq : Bool) (kd : Nat) (y z : COpd) : Bool :=
  match op' with
  | .binOp op'' t x' y' _ => decide (op'' = if neq = true then .neq else .eql) && okOpd x' y && okOpd y' z && okNilT P t kd
  | _ => false
theorem eq_ptr {t e : TypeId} (hu : P.underlying t = some (.pointer e)) (d : Nat) (w : World) :
    (Op.equalIn (d + 1) t (.pointer none) (.pointer none)).run P w = .ok true w ∧ ∀ y, (Op.equalIn (d + 1) t (.pointer (some y)) (.pointer none)).run P w = .ok false w := by
  refine ⟨by simp [Op.equalIn, run_underlying hu], fun y => by simp [Op.equalIn, run_underlying hu]⟩
theorem eq_slice {t e : TypeId} (hu : P.underlying t = some (.slice e)) (d : Nat) (w : World) :
    (Op.equalIn (d + 1) t (.slice none 0 0) (.slice none 0 0)).run P w = .ok true w ∧ ∀ y n c, (Op.equalIn (d + 1) t (.slice (some y) n c) (.slice none 0 0)).run P w = .ok false w := by
  refine ⟨by simp [Op.equalIn, run_underlying hu], fun y n c => by simp [Op.equalIn, run_underlying hu]⟩
theorem eq_func {t : TypeId} {ps rs : Array TypeId} {vr : Bool} (hu : P.underlying t = some (.func ps rs vr)) (d : Nat) (w : World) :
    (Op.equalIn (d + 1) t .nilFunc .nilFunc).run P w = .ok true w ∧ ∀ f x y, (Op.equalIn (d + 1) t (.func f x y) .nilFunc).run P w = .ok false w := by
  refine ⟨by simp [Op.equalIn, run_underlying hu], fun f x y => by simp [Op.equalIn, run_underlying hu]⟩
def NilEq (P : Program) (t : TypeId) (u v : Value) (b : Bool) (w : World) : Prop :=
  (Op.equal t u v).run P w = .ok b w ∧ (∀ op y z, (eqGuard op t y z u v).run P w = .ok () w) ∧ binOp .eql t u v = (do pure (.bool (← Op.equal t u v))) ∧ binOp .neq t u v = (do pure (.bool (!(← Op.equal t u v))))
theorem run_nilEq {kd : Nat} {p q : AV} {u v : Value} {b : Bool} (hp : RepV S p u) (hq : RepV S q v) (h : nilEq kd p q = some b) {t : TypeId} (ht : okNilT P t kd = true) (w : World) : NilEq P t u v b w := by
  unfold okNilT at ht
  unfold nilEq at h
  split at h
  · cases h
    rw [rep_nilptr hp, rep_nilptr hq]
    split at ht <;> first | (simp at ht; done) | skip
    · rename_i hu _
      exact ⟨(eq_ptr hu 9999 w).1, fun op y z => by cases op <;> simp [eqGuard], rfl, rfl⟩
    all_goals simp_all
  · cases h
    obtain ⟨ad, k, e, _⟩ := rep_ptr hp
    rw [e, rep_nilptr hq]
    split at ht <;> first | (simp at ht; done) | skip
    · rename_i hu _
      exact ⟨(eq_ptr hu 9999 w).2 _, fun op y z => by cases op <;> simp [eqGuard], rfl, rfl⟩
    all_goals simp_all
  · cases h
    obtain ⟨g, off, cur, uu, e, _⟩ := rep_fptr hp
    rw [e, rep_nilptr hq]
    split at ht <;> first | (simp at ht; done) | skip
    · rename_i hu _
      exact ⟨(eq_ptr hu 9999 w).2 _, fun op y z => by cases op <;> simp [eqGuard], rfl, rfl⟩
    all_goals simp_all
  · cases h
    rw [rep_nils hp, rep_nils hq]
    split at ht <;> first | (simp at ht; done) | skip
    rotate_left
    · rename_i hu _
      exact ⟨(eq_slice hu 9999 w).1, fun op y z => by cases op <;> simp [eqGuard], rfl, rfl⟩
    all_goals simp_all
  · cases h
    obtain ⟨ad, cap, e⟩ := rep_emp hp
    rw [e, rep_nils hq]
    split at ht <;> first | (simp at ht; done) | skip
    rotate_left
    · rename_i hu _
      exact ⟨(eq_slice hu 9999 w).2 _ _ _, fun op y z => by cases op <;> simp [eqGuard], rfl, rfl⟩
    all_goals simp_all
  · cases h
    obtain ⟨ad, cap, e, _, h2, _⟩ := rep_lst hp
    obtain ⟨y, rfl⟩ := h2 (by simp)
    rw [e, rep_nils hq]
    split at ht <;> first | (simp at ht; done) | skip
    rotate_left
    · rename_i hu _
      exact ⟨(eq_slice hu 9999 w).2 _ _ _, fun op y z => by cases op <;> simp [eqGuard], rfl, rfl⟩
    all_goals simp_all
  · cases h
    obtain ⟨ad, cap, k, e, _, _, _, h2, _⟩ := rep_ref hp
    obtain ⟨y, rfl⟩ := Option.isSome_iff_exists.1 h2
    rw [e, rep_nils hq]
    split at ht <;> first | (simp at ht; done) | skip
    rotate_left
    · rename_i hu _
      exact ⟨(eq_slice hu 9999 w).2 _ _ _, fun op y z => by cases op <;> simp [eqGuard], rfl, rfl⟩
    all_goals simp_all
  · cases h
    rw [rep_nilfn hp, rep_nilfn hq]
    split at ht <;> first | (simp at ht; done) | skip
    rotate_left 2
    · rename_i hu _
      exact ⟨(eq_func hu 9999 w).1, fun op y z => by cases op <;> simp [eqGuard], rfl, rfl⟩
    all_goals simp_all
  · cases h
    obtain ⟨_, _, e⟩ := rep_fn0 hp
    rw [e, rep_nilfn hq]
    split at ht <;> first | (simp at ht; done) | skip
    rotate_left 2
    · rename_i hu _
      exact ⟨(eq_func hu 9999 w).2 _ _ _, fun op y z => by cases op <;> simp [eqGuard], rfl, rfl⟩
    all_goals simp_all
  · cases h
theorem eqn_sound (hT : TRel S T a.tmps ss) {neq : Bool} {kd : Nat} {y z : COpd} (ho : okEqn P o.op neq kd y z = true) (hs : ∀ t ∈ y.slots ++ z.slots, t ∈ ss) {p q : AV} {b : Bool}
    (h1 : evOpd T y = some p) (h2 : evOpd T z = some q) (h : nilEq kd p q = some b) (hx : x = .bool (if neq = true then !b else b)) : Gives P S w a o x := by
  unfold okEqn at ho
  split at ho
  · rename_i op'' t x' y' _ e
    simp only [Bool.and_eq_true, decide_eq_true_eq] at ho
    obtain ⟨⟨⟨rfl, h3⟩, h4⟩, h5⟩ := ho
    obtain ⟨e1, e2, e3, e4⟩ := run_nilEq (P := P) (opd_rep hT h3 (fun t ht => hs t (by simp [ht])) h1) (opd_rep hT h4 (fun t ht => hs t (by simp [ht])) h2) h h5 w
    subst hx
    refine ⟨_, ?_, .one (.s (.frz (.bool _)))⟩
    cases neq
    · simp only [execOp, e, Bool.false_eq_true, if_false, Sem.run_bind, e2, Result.andThen_ok, e3, e1, Sem.run_pure]
    · simp only [execOp, e, if_true, Sem.run_bind, e2, Result.andThen_ok, e4, e1, Sem.run_pure]
  · simp at ho

/-- structs of whole numbers, bools, strings, compared -/
def okField (P : Program) (kd : Nat) (f : Field) (i : Nat) : Bool :=
  decide (f.name ≠ "_") && decide (f.offset = i) && (match P.underlying f.type, kd with
    | some (.int _), 0 => true
    | some .bool, 1 => true
    | some .string, 2 => true
    | _, _ => false)
def okKind (P : Program) (kd : Nat) (t : TypeId) : Bool :=
  match P.underlying t, kd with
  | some (.int _), 0 => true
  | some .bool, 1 => true
  | some .string, 2 => true
  | _, _ => false
/-- arrays of such -/
def okItems (P : Program) (ks : List Nat) (n : Nat) (e : TypeId) : Bool :=
  decide (ks.length = n) && ks.all (fun k => okKind P k e) && decide (P.cellsOf e = 1) && (P.info? e).isSome
def okFields (P : Program) : List Nat → List Field → Nat → Bool
  | [], [], _ => true
  | k :: ks, f :: fs, i => okField P k f i && okFields P ks fs (i + 1)
  | _, _, _ => false
def okEqs (P : Program) (op' : Op) (neq : Bool) (ks : List Nat) (y z : COpd) : Bool :=
  match op' with
  | .binOp op'' t x' y' _ => decide (op'' = if neq = true then .neq else .eql) && okOpd x' y && okOpd y' z &&
    (match P.underlying t with | some (.struct fs) => okFields P ks fs.toList 0 | some (.array n e) => okItems P ks n e | _ => false) && !P.stoodInHeld t && !P.eqGuardType P.depth t
  | _ => false
theorem cell_eq (d : Nat) (w : World) {t : TypeId} {k : Nat} {p q : AV} {u v : Value} {c : Bool} (hk : okKind P k t = true) (hru : RepS S p u) (hrv : RepS S q v) (hc : cellEq k p q = some c) : (Op.equalIn (d + 1) t u v).run P w = .ok c w ∧ aggT P t = some false := by
  unfold okKind at hk
  unfold cellEq at hc
  split at hc
  · split at hc
    · rename_i he
      subst he
      cases hc
      rw [rep_int (.one (.s hru)), rep_int (.one (.s hrv))]
      split at hk <;> first | (simp at hk; done) | skip
      · rename_i hu' _
        exact ⟨run_equalIn_int w d _ _ _ _ _ hu', by simp [aggT, hu']⟩
      all_goals simp_all
    · cases hc
  · cases hc
    rw [rep_bool (.one (.s hru)), rep_bool (.one (.s hrv))]
    split at hk <;> first | (simp at hk; done) | skip
    rotate_left
    · rename_i hu' _
      exact ⟨run_equalIn_bool' w d _ _ _ hu', by simp [aggT, hu']⟩
    all_goals simp_all
  · cases hc
    rw [rep_str (.one (.s hru)), rep_str (.one (.s hrv))]
    split at hk <;> first | (simp at hk; done) | skip
    rotate_left 2
    · rename_i hu' _
      exact ⟨run_equalIn_string w d _ _ _ hu', by simp [aggT, hu']⟩
    all_goals simp_all
  · cases hc
theorem run_items (d : Nat) (w : World) {e : TypeId} {xs ys : List AV} {us vs : List Value} (hx : RepL S xs us) (hy : RepL S ys vs) : ∀ (ks : List Nat) (i : Nat) (b : Bool), ks.all (fun k => okKind P k e) = true →
    cellsEq ks (xs.drop i) (ys.drop i) = some b → (Op.eqItems (d + 1) e 1 us.toArray vs.toArray (List.range' i ks.length)).run P w = .ok b w
  | [], i, b, _, h => by
    unfold cellsEq at h
    split at h <;> simp_all [Op.eqItems]
  | k :: ks, i, b, h, he => by
    simp only [List.all_cons, Bool.and_eq_true] at h
    cases hdx : xs.drop i with
    | nil => rw [hdx] at he; simp [cellsEq] at he
    | cons p l =>
      cases hdy : ys.drop i with
      | nil => rw [hdx, hdy] at he; simp [cellsEq] at he
      | cons q l' =>
        rw [hdx, hdy] at he
        simp only [cellsEq] at he
        have hxi : xs[i]? = some p := by have := congrArg (·[0]?) hdx; simpa using this
        have hyi : ys[i]? = some q := by have := congrArg (·[0]?) hdy; simpa using this
        have hdx' : xs.drop (i + 1) = l := by rw [← List.drop_drop, hdx]; rfl
        have hdy' : ys.drop (i + 1) = l' := by rw [← List.drop_drop, hdy]; rfl
        obtain ⟨u, hu, hru⟩ := repL_get hx hxi
        obtain ⟨v, hv, hrv⟩ := repL_get hy hyi
        cases hc : cellEq k p q with
        | none => simp [hc] at he
        | some c =>
          cases hr : cellsEq ks l l' with
          | none => simp [hc, hr] at he
          | some r =>
            simp only [hc, hr, Option.some.injEq] at he
            have ih := run_items d w hx hy ks (i + 1) r h.2 (by rw [hdx', hdy']; exact hr)
            have hcell := cell_eq d w h.1 hru hrv hc
            have hpu : (part e us.toArray (i * 1)).run P w = .ok u w := by simp [part, run_aggT w hcell.2, hu]
            have hpv : (part e vs.toArray (i * 1)).run P w = .ok v w := by simp [part, run_aggT w hcell.2, hv]
            simp only [List.length_cons, List.range'_succ, Op.eqItems, Sem.run_bind, hpu, hpv, Result.andThen_ok, hcell.1]
            cases c
            · simp at he; subst he; simp
            · simp at he; subst he; simpa using ih
theorem run_fields (d : Nat) (w : World) {xs ys : List AV} {us vs : List Value} (hx : RepL S xs us) (hy : RepL S ys vs) : ∀ (ks : List Nat) (fs : List Field) (i : Nat) (b : Bool), okFields P ks fs i = true →
    cellsEq ks (xs.drop i) (ys.drop i) = some b → (Op.eqFields (d + 1) us.toArray vs.toArray fs).run P w = .ok b w
  | [], [], i, b, _, h => by
    unfold cellsEq at h
    split at h <;> simp_all [Op.eqFields]
  | [], _ :: _, _, _, h, _ => by simp [okFields] at h
  | _ :: _, [], _, _, h, _ => by simp [okFields] at h
  | k :: ks, f :: fs, i, b, h, he => by
    simp only [okFields, Bool.and_eq_true] at h
    cases hdx : xs.drop i with
    | nil => rw [hdx] at he; simp [cellsEq] at he
    | cons p l =>
      cases hdy : ys.drop i with
      | nil => rw [hdx, hdy] at he; simp [cellsEq] at he
      | cons q l' =>
        rw [hdx, hdy] at he
        simp only [cellsEq] at he
        have hxi : xs[i]? = some p := by have := congrArg (·[0]?) hdx; simpa using this
        have hyi : ys[i]? = some q := by have := congrArg (·[0]?) hdy; simpa using this
        have hdx' : xs.drop (i + 1) = l := by rw [← List.drop_drop, hdx]; rfl
        have hdy' : ys.drop (i + 1) = l' := by rw [← List.drop_drop, hdy]; rfl
        obtain ⟨u, hu, hru⟩ := repL_get hx hxi
        obtain ⟨v, hv, hrv⟩ := repL_get hy hyi
        cases hc : cellEq k p q with
        | none => simp [hc] at he
        | some c =>
          cases hr : cellsEq ks l l' with
          | none => simp [hc, hr] at he
          | some r =>
            simp only [hc, hr, Option.some.injEq] at he
            have ih := run_fields d w hx hy ks fs (i + 1) r h.2 (by rw [hdx', hdy']; exact hr)
            have hf := h.1
            unfold okField at hf
            simp only [Bool.and_eq_true, decide_eq_true_eq] at hf
            obtain ⟨⟨hname, hoff⟩, hk⟩ := hf
            have hcell : (Op.equalIn (d + 1) f.type u v).run P w = .ok c w ∧ aggT P f.type = some false := by
              unfold cellEq at hc
              split at hc
              · split at hc
                · rename_i he
                  subst he
                  cases hc
                  rw [rep_int (.one (.s hru)), rep_int (.one (.s hrv))]
                  split at hk <;> first | (simp at hk; done) | skip
                  · rename_i hu' _
                    exact ⟨run_equalIn_int w d _ _ _ _ _ hu', by simp [aggT, hu']⟩
                  all_goals simp_all
                · cases hc
              · cases hc
                rw [rep_bool (.one (.s hru)), rep_bool (.one (.s hrv))]
                split at hk <;> first | (simp at hk; done) | skip
                rotate_left
                · rename_i hu' _
                  exact ⟨run_equalIn_bool' w d _ _ _ hu', by simp [aggT, hu']⟩
                all_goals simp_all
              · cases hc
                rw [rep_str (.one (.s hru)), rep_str (.one (.s hrv))]
                split at hk <;> first | (simp at hk; done) | skip
                rotate_left 2
                · rename_i hu' _
                  exact ⟨run_equalIn_string w d _ _ _ hu', by simp [aggT, hu']⟩
                all_goals simp_all
              · cases hc
            have hpu : (part f.type us.toArray f.offset).run P w = .ok u w := by simp [part, run_aggT w hcell.2, hoff, hu]
            have hpv : (part f.type vs.toArray f.offset).run P w = .ok v w := by simp [part, run_aggT w hcell.2, hoff, hv]
            simp only [Op.eqFields, ne_eq, hname, not_false_eq_true, if_true, Sem.run_bind, hpu, hpv, Result.andThen_ok, hcell.1]
            cases c
            · simp at he; subst he; simp
            · simp at he; subst he; simpa using ih
theorem eqs_sound (hT : TRel S T a.tmps ss) {neq : Bool} {ks : List Nat} {y z : COpd} (ho : okEqs P o.op neq ks y z = true) (hs : ∀ t ∈ y.slots ++ z.slots, t ∈ ss) {p q : List AV} {b : Bool}
    (h1 : evOpd T y = some (.agg p)) (h2 : evOpd T z = some (.agg q)) (h : cellsEq ks p q = some b) (hx : x = .bool (if neq = true then !b else b)) : Gives P S w a o x := by
  unfold okEqs at ho
  split at ho
  · rename_i op'' t x' y' _ e
    simp only [Bool.and_eq_true, decide_eq_true_eq, Bool.not_eq_true'] at ho
    obtain ⟨⟨⟨⟨⟨rfl, h3⟩, h4⟩, h5⟩, h6⟩, h7⟩ := ho
    obtain ⟨us, e1, r1⟩ := rep_agg (opd_rep hT h3 (fun t ht => hs t (by simp [ht])) h1)
    obtain ⟨vs, e2, r2⟩ := rep_agg (opd_rep hT h4 (fun t ht => hs t (by simp [ht])) h2)
    split at h5
    · rename_i fs hu
      have hf : P.underlying t = some (.struct (P.fieldsOf t)) := by simp [Program.fieldsOf, hu]
      have hrun : (Op.equalIn 10000 t (.agg us.toArray) (.agg vs.toArray)).run P w = .ok b w := by
        rw [show (10000 : Nat) = 9999 + 1 from rfl, run_equalIn_agg w 9999 t _ _ hf h6]
        have : P.fieldsOf t = fs := by simp [Program.fieldsOf, hu]
        rw [this]
        exact run_fields 9998 w r1 r2 ks fs.toList 0 b h5 (by simpa using h)
      subst hx
      refine ⟨_, ?_, .one (.s (.frz (.bool _)))⟩
      cases neq
      · simp only [execOp, e, e1, e2, Bool.false_eq_true, if_false, Sem.run_bind, run_eqGuard_agg w .eql t _ _ _ _ h7, Result.andThen_ok, run_eql_struct, hrun, Sem.run_pure]
      · simp only [execOp, e, e1, e2, if_true, Sem.run_bind, run_eqGuard_agg w .neq t _ _ _ _ h7, Result.andThen_ok, run_neq_struct, hrun, Sem.run_pure]
    · rename_i n e' hu
      unfold okItems at h5
      simp only [Bool.and_eq_true, decide_eq_true_eq] at h5
      obtain ⟨⟨⟨h51, h52⟩, h53⟩, h54⟩ := h5
      obtain ⟨info, hi⟩ := Option.isSome_iff_exists.1 h54
      have hrun : (Op.equalIn 10000 t (.agg us.toArray) (.agg vs.toArray)).run P w = .ok b w := by
        rw [show (10000 : Nat) = 9999 + 1 from rfl, run_equalIn_array w 9999 _ _ hu hi, h53, List.range_eq_range', ← h51]
        exact run_items 9998 w r1 r2 ks 0 b h52 (by simpa using h)
      subst hx
      refine ⟨_, ?_, .one (.s (.frz (.bool _)))⟩
      cases neq
      · simp only [execOp, e, e1, e2, Bool.false_eq_true, if_false, Sem.run_bind, run_eqGuard_agg w .eql t _ _ _ _ h7, Result.andThen_ok, run_eql_struct, hrun, Sem.run_pure]
      · simp only [execOp, e, e1, e2, if_true, Sem.run_bind, run_eqGuard_agg w .neq t _ _ _ _ h7, Result.andThen_ok, run_neq_struct, hrun, Sem.run_pure]
    · simp at h5
  · simp at ho
end ops
end Go.Proofs.YtbdpceigmnpoaaaGreatDoor.Ev
