/- Stepping the evaluator by rewriting: each construct in a form that does not open what stands behind it. -/
import Derived.Test.YtbdpceigmnpoaaaGreatDoorEvN
import Derived.IntWalk
set_option linter.unusedSimpArgs false
set_option linter.unusedVariables false
namespace Go.Proofs.YtbdpceigmnpoaaaGreatDoor.Ev

def CO.isPure : CO → Bool
  | .box .. => false
  | .bslice .. => false
  | .store .. => false
  | .mks .. => false
  | .call .. => false
  | .qcall .. => false
  | .app .. => false
  | .copy .. => false
  | .clear .. => false
  | _ => true

section
variable {call : Nat → List AV → Heap → Option (AV × Heap)} {it : (St → Option (CX × St)) → St → Option (CX × St)}

/-! code -/
def seqK (r : Option (CX × St)) (k : St → Option (CX × St)) : Option (CX × St) :=
  match r with
  | some (.normal, s) => k s
  | r => r
def condK (v : Option AV) (a b : St → Option (CX × St)) (s : St) : Option (CX × St) :=
  match v with
  | some (.bool true) => a s
  | some (.bool false) => b s
  | _ => none
def blockK (id : Nat) (r : Option (CX × St)) : Option (CX × St) :=
  match r with
  | some (.exit j, s) => if j = id then some (.normal, s) else some (.exit j, s)
  | r => r
def regK (r : Option (Env × Heap)) : Option (CX × St) :=
  match r with
  | some s => some (.normal, s)
  | none => none
theorem c_skip (s : St) : evCode call it .skip s = some (.normal, s) := rfl
theorem c_seq (a b : CC) (s : St) : evCode call it (.seq a b) s = seqK (evCode call it a s) (evCode call it b) := by
  simp only [evCode]; rfl
theorem c_cond (c : COpd) (a b : CC) (s : St) : evCode call it (.cond c a b) s = condK (evOpd s.1 c) (evCode call it a) (evCode call it b) s := by
  simp only [evCode]; rfl
theorem c_block (id : Nat) (a : CC) (s : St) : evCode call it (.block id a) s = blockK id (evCode call it a s) := by
  simp only [evCode]; rfl
theorem c_region (m : List Nat) (ops : List COp) (s : St) : evCode call it (.region m ops) s = regK (evOps call ops (keepEnv s.1 m) s.2) := by
  simp only [evCode, regK]
  cases evOps call ops (keepEnv s.1 m) s.2 <;> rfl
theorem c_draw (m : List Nat) (ops : List COp) (s : St) : evCode call it (.draw m ops) s = regK (evDraw call ops (keepEnv s.1 m) s.2) := by
  simp only [evCode, regK]
  cases evDraw call ops (keepEnv s.1 m) s.2 <;> rfl
def plainD : List COp → Bool
  | [] => true
  | o :: os => o.alts.isEmpty && plainD os
theorem plainD_nil : plainD [] = true := rfl
theorem plainD_cons (d : Option Nat) (o : CO) (g : Option (Nat × Bool)) (bf : List Nat) (os : List COp) : plainD (⟨d, o, g, bf, []⟩ :: os) = plainD os := rfl
theorem evOpsD_plain : ∀ (ops : List COp) (T : Env) (H : Heap) (hs : List Heap) (as : List (COp × Env × AV)), plainD ops = true →
    (evOpsD call ops T H hs as).map (fun r => (r.1, r.2.1, r.2.2.2)) = (evOps call ops T H).map fun r => (r.1, r.2, as)
  | [], _, _, _, _, _ => rfl
  | o :: os, T, H, hs, as, h => by
    simp only [plainD, Bool.and_eq_true] at h
    simp only [evOpsD, evOps]
    cases evGuard T o.g with
    | none => rfl
    | some b =>
      cases b with
      | true =>
        simp only
        cases evOp call T H o.o with
        | none => rfl
        | some r =>
          simp only [h.1, if_true]
          exact evOpsD_plain os _ _ _ _ h.2
      | false => exact evOpsD_plain os _ _ _ _ h.2
def drawK (p : Bool) (a b : Option (CX × St)) : Option (CX × St) := if p = true then a else b
theorem c_drawp (m : List Nat) (ops : List COp) (s : St) : evCode call it (.draw m ops) s = drawK (plainD ops) (regK (evOps call ops (keepEnv s.1 m) s.2)) (regK (evDraw call ops (keepEnv s.1 m) s.2)) := by
  rw [c_draw]
  unfold drawK
  split
  · rename_i h
    congr 1
    have := evOpsD_plain (call := call) ops (keepEnv s.1 m) s.2 [] [] h
    unfold evDraw
    cases h1 : evOpsD call ops (keepEnv s.1 m) s.2 [] [] with
    | none =>
      rw [h1] at this
      cases h2 : evOps call ops (keepEnv s.1 m) s.2 with
      | none => rfl
      | some r => rw [h2] at this; cases this
    | some r =>
      obtain ⟨T', H', hs, as⟩ := r
      rw [h1] at this
      cases h2 : evOps call ops (keepEnv s.1 m) s.2 with
      | none => rw [h2] at this; cases this
      | some r =>
        rw [h2] at this
        simp only [Option.map_some, Option.some.injEq, Prod.mk.injEq] at this
        obtain ⟨rfl, rfl, rfl⟩ := this
        rfl
  · rfl
theorem drawK_true (a b : Option (CX × St)) : drawK true a b = a := rfl
theorem c_loop (a : CC) (s : St) : evCode call it (.loop a) s = it (evCode call it a) s := rfl
theorem c_exit (id : Nat) (s : St) : evCode call it (.exit id) s = some (.exit id, s) := rfl
theorem c_ret (s : St) : evCode call it .ret s = some (.ret, s) := rfl
theorem c_rfb (g t i j d : Nat) (a : CC) (s : St) : evCode call it (.rfb g t i j d a) s = evRnds (evCode call it a) g i j d s.1 s.2 (get s.1 t) := rfl
theorem seqK_normal (s : St) (k) : seqK (some (.normal, s)) k = k s := rfl
theorem seqK_exit (i : Nat) (s : St) (k) : seqK (some (.exit i, s)) k = some (.exit i, s) := rfl
theorem seqK_ret (s : St) (k) : seqK (some (.ret, s)) k = some (.ret, s) := rfl
theorem seqK_none (k) : seqK none k = none := rfl
theorem seqK_ite (p : Prop) [Decidable p] (x y : Option (CX × St)) (k) : seqK (if p then x else y) k = if p then seqK x k else seqK y k := by split <;> rfl
theorem condK_true (a b : St → Option (CX × St)) (s : St) : condK (some (.bool true)) a b s = a s := rfl
theorem condK_false (a b : St → Option (CX × St)) (s : St) : condK (some (.bool false)) a b s = b s := rfl
theorem condK_bool (p : Bool) (a b : St → Option (CX × St)) (s : St) : condK (some (.bool p)) a b s = if p = true then a s else b s := by cases p <;> rfl
theorem blockK_normal (id : Nat) (s : St) : blockK id (some (.normal, s)) = some (.normal, s) := rfl
theorem blockK_exit (id j : Nat) (s : St) : blockK id (some (.exit j, s)) = if j = id then some (.normal, s) else some (.exit j, s) := rfl
theorem blockK_ret (id : Nat) (s : St) : blockK id (some (.ret, s)) = some (.ret, s) := rfl
theorem blockK_ite (id : Nat) (p : Prop) [Decidable p] (x y : Option (CX × St)) : blockK id (if p then x else y) = if p then blockK id x else blockK id y := by split <;> rfl
theorem regK_some (s : St) : regK (some s) = some (.normal, s) := rfl
theorem regK_ite (p : Prop) [Decidable p] (x y : Option (Env × Heap)) : regK (if p then x else y) = if p then regK x else regK y := by split <;> rfl

/-! operations -/
def nextK (call : Nat → List AV → Heap → Option (AV × Heap)) (d : Option Nat) (os : List COp) (T : Env) (r : Option (AV × Heap)) : Option (Env × Heap) :=
  match r with
  | some (v, H') => evOps call os (put T d v) H'
  | none => none
def guardK (call : Nat → List AV → Heap → Option (AV × Heap)) (d : Option Nat) (o : CO) (os : List COp) (b : Bool) (T : Env) (H : Heap) (v : Option AV) : Option (Env × Heap) :=
  match v with
  | some (.bool c) => if c = b then nextK call d os T (evOp call T H o) else evOps call os (put T d (.tup [])) H
  | some (.tup []) => evOps call os (put T d (.tup [])) H
  | _ => none
theorem o_nil (T : Env) (H : Heap) : evOps call [] T H = some (T, H) := rfl
theorem o_cons (d : Option Nat) (o : CO) (bf alts : List Nat) (os : List COp) (T : Env) (H : Heap) : evOps call (⟨d, o, none, bf, alts⟩ :: os) T H = nextK call d os T (evOp call T H o) := by
  simp only [evOps, evGuard]; rfl
theorem o_guard (d : Option Nat) (o : CO) (i : Nat) (b : Bool) (bf alts : List Nat) (os : List COp) (T : Env) (H : Heap) :
    evOps call (⟨d, o, some (i, b), bf, alts⟩ :: os) T H = guardK call d o os b T H (get T i) := by
  simp only [evOps, evGuard]
  cases hg : get T i with
  | none => rfl
  | some v =>
    cases v with
    | bool c => cases c <;> cases b <;> rfl
    | tup l => cases l <;> rfl
    | _ => rfl
theorem nextK_some (d : Option Nat) (os : List COp) (T : Env) (v : AV) (H : Heap) : nextK call d os T (some (v, H)) = evOps call os (put T d v) H := rfl
theorem nextK_ite (d : Option Nat) (os : List COp) (T : Env) (p : Prop) [Decidable p] (x y : Option (AV × Heap)) : nextK call d os T (if p then x else y) = if p then nextK call d os T x else nextK call d os T y := by split <;> rfl
theorem guardK_bool (d : Option Nat) (o : CO) (os : List COp) (b : Bool) (T : Env) (H : Heap) (c : Bool) :
    guardK call d o os b T H (some (.bool c)) = if c = b then nextK call d os T (evOp call T H o) else evOps call os (put T d (.tup [])) H := rfl
theorem guardK_tt (d : Option Nat) (o : CO) (os : List COp) (T : Env) (H : Heap) : guardK call d o os true T H (some (.bool true)) = nextK call d os T (evOp call T H o) := rfl
theorem guardK_ff (d : Option Nat) (o : CO) (os : List COp) (T : Env) (H : Heap) : guardK call d o os false T H (some (.bool false)) = nextK call d os T (evOp call T H o) := rfl
theorem guardK_tf (d : Option Nat) (o : CO) (os : List COp) (T : Env) (H : Heap) : guardK call d o os true T H (some (.bool false)) = evOps call os (put T d (.tup [])) H := rfl
theorem guardK_ft (d : Option Nat) (o : CO) (os : List COp) (T : Env) (H : Heap) : guardK call d o os false T H (some (.bool true)) = evOps call os (put T d (.tup [])) H := rfl
theorem guardK_cases (d : Option Nat) (o : CO) (os : List COp) (b : Bool) (T : Env) (H : Heap) (c : Bool) :
    guardK call d o os b T H (some (.bool c)) = if c = true then guardK call d o os b T H (some (.bool true)) else guardK call d o os b T H (some (.bool false)) := by cases c <;> rfl
theorem guardK_tup (d : Option Nat) (o : CO) (os : List COp) (b : Bool) (T : Env) (H : Heap) :
    guardK call d o os b T H (some (.tup [])) = evOps call os (put T d (.tup [])) H := rfl

/-! calls -/
def callK (call : Nat → List AV → Heap → Option (AV × Heap)) (frz : Bool) (H : Heap) (f : Option AV) (vs : Option (List AV)) : Option (AV × Heap) :=
  match f, vs with
  | some (.fn g caps), some vs => match call g (capArgs caps vs) H with
    | some (r, H1) =>
      if frz = true then (match fzRes H1 r with
        | some (r', ids) => some (r', gc H r' (kill H1 ids))
        | none => none)
      else some (r, gc H r H1)
    | none => none
  | _, _ => none
theorem p_call (T : Env) (H : Heap) (f : COpd) (args : List COpd) (frz : Bool) : evOp call T H (.call f args frz) = callK call frz H (evOpd T f) (evOpds T args) := by
  simp only [evOp, callK]
  rfl
/-- a call that leaves the heap as it is -/
def qcK (H : Heap) (r : Option (AV × Heap)) : Option (AV × Heap) :=
  match r with
  | some (r, H1) => if heq H1 H = true then some (r, H) else none
  | none => none
theorem qcK_same (H : Heap) (r : AV) : qcK H (some (r, H)) = some (r, H) := if_pos (heq_refl H)
theorem p_qcall (T : Env) (H : Heap) (f : COpd) (args : List COpd) : evOp call T H (.qcall f args) = qcK H (callK call true H (evOpd T f) (evOpds T args)) := by
  simp only [evOp, callK]
  cases h1 : evOpd T f with
  | none => rfl
  | some x =>
    cases x with
    | fn g caps =>
      cases h2 : evOpds T args with
      | none => rfl
      | some vs =>
        simp only
        cases h3 : call g (capArgs caps vs) H with
        | none => rfl
        | some p =>
          obtain ⟨r, H1⟩ := p
          simp only [if_true]
          cases h4 : fzRes H1 r with
          | none => rfl
          | some q => rfl
    | _ => rfl
/-- a call, as the caller sees it -/
def cal (call : Nat → List AV → Heap → Option (AV × Heap)) (frz : Bool) (g : Nat) (vs : List AV) (H : Heap) : Option (AV × Heap) :=
  match call g vs H with
  | some (r, H1) =>
    if frz = true then (match fzRes H1 r with
      | some (r', ids) => some (r', gc H r' (kill H1 ids))
      | none => none)
    else some (r, gc H r H1)
  | none => none
theorem callK_fn (frz : Bool) (H : Heap) (g : Nat) (caps vs : List AV) : callK call frz H (some (.fn g caps)) (some vs) = cal call frz g (capArgs caps vs) H := rfl

/-! pure operations -/
def pureK (H : Heap) (v : Option AV) : Option (AV × Heap) :=
  match v with
  | some v => some (v, H)
  | none => none
theorem pureK_some (H : Heap) (v : AV) : pureK H (some v) = some (v, H) := rfl
theorem pureK_ite (H : Heap) (p : Prop) [Decidable p] (x y : Option AV) : pureK H (if p then x else y) = if p then pureK H x else pureK H y := by split <;> rfl
theorem evOp_pureK {T : Env} {H : Heap} {o : CO} (h : o.isPure = true) : evOp call T H o = pureK H (evPure T H o) := by
  cases o <;> first | (simp [CO.isPure] at h; done) | (simp only [evOp, pureK]; split <;> simp_all)
def binK (op : BinOp) (a b : Option AV) : Option AV :=
  match a, b with
  | some a, some b => evBin op a b
  | _, _ => none
def pickK (c a b : Option AV) : Option AV :=
  match c with
  | some (.bool true) => a
  | some (.bool false) => b
  | _ => none
def loadK (ag : Bool) (sz : Nat) (H : Heap) (a : Option AV) : Option AV :=
  match a with
  | some p => evLoad ag sz H p
  | none => none
def atK (l : List (List AV)) (i : Option Nat) : Option (List AV) :=
  match i with
  | some n => l[n]?
  | none => none
def rowK (sz : Nat) (r : Option (List AV)) : Option AV :=
  match r with
  | some row => if row.length = sz then some (.fptr row) else none
  | none => none
def refK (b v s off len : Nat) (sz : Nat) (i : Option Nat) : Option AV :=
  match i with
  | some n => if n < len ∧ s = sz then some (.ptr b v s (off + n) 0) else none
  | none => none
def iaddrK (sz : Nat) (x i : Option AV) : Option AV :=
  match x, i with
  | some (.lst l), some iv => rowK sz (atK l (asNat iv))
  | some (.ref b v s off len), some iv => refK b v s off len sz (asNat iv)
  | some (.cref b v s off len), some iv => refK b v s off len sz (asNat iv)
  | _, _ => none
def lenK (isStr : Bool) (x : Option AV) : Option AV :=
  match x with
  | some a => if isStr = true then (match a with
      | .str s => some (.int .i64 s.size)
      | _ => none) else (match evLen a with
      | some n => some (.int .i64 (n : Int))
      | none => none)
  | none => none
def unK (op : UnOp) (x : Option AV) : Option AV :=
  match x with
  | some a => evUn op a
  | none => none
def faddrK (off : Nat) (x : Option AV) : Option AV :=
  match x with
  | some (.ptr b v s i o) => some (.ptr b v s i (o + off))
  | some (.fptr cs) => some (.fptr (cs.drop off))
  | _ => none
def extrK (x : Option AV) (i : Nat) : Option AV :=
  match x with
  | some (.tup vs) => vs[i]?
  | _ => none
def eqbK (neq : Bool) (x y : Option AV) : Option AV :=
  match x, y with
  | some (.bool a), some (.bool b) => some (.bool (if neq = true then !(a == b) else a == b))
  | _, _ => none
def eqsK (neq : Bool) (ks : List Nat) (x y : Option AV) : Option AV :=
  match x, y with
  | some (.agg a), some (.agg b) => (cellsEq ks a b).map fun e => .bool (if neq = true then !e else e)
  | _, _ => none
def eqnK (neq : Bool) (kd : Nat) (x y : Option AV) : Option AV :=
  match x, y with
  | some a, some b => (nilEq kd a b).map fun e => .bool (if neq = true then !e else e)
  | _, _ => none
def convK (k : IntKind) (x : Option AV) : Option AV :=
  match x with
  | some (.int _ n) => some (.int k (k.wrap n))
  | _ => none
def mkbndK (f : Nat) (x : Option AV) : Option AV :=
  match x with
  | some (.agg cs) => if cs.all AV.lit = true then some (.fn f [.tup [], .agg cs]) else none
  | _ => none
def mkfnK (f : Nat) (cs : Option (List AV)) : Option AV :=
  match cs with
  | some cs => if cs.all AV.scal = true then some (.fn f cs) else none
  | none => none
def fieldK (ag : Bool) (off sz : Nat) (x : Option AV) : Option AV :=
  match x with
  | some (.agg cs) => if ag = true then (if off + sz ≤ cs.length then some (.agg ((cs.drop off).take sz)) else none) else cs[off]?
  | _ => none
def byteK (s : ByteArray) (i : Option Nat) : Option AV :=
  match i with
  | some n => match s.data.toList[n]? with
    | some b => some (.int .u8 b.toNat)
    | none => none
  | none => none
def idxK (x i : Option AV) : Option AV :=
  match x, i with
  | some (.str s), some iv => byteK s (asNat iv)
  | _, _ => none
def storeK (sz : Nat) (H : Heap) (p v : Option AV) : Option (AV × Heap) :=
  match p, v with
  | some p, some v => (evStore sz H v p).map fun H' => (.tup [], H')
  | _, _ => none
def boxK (ty sz : Nat) (H : Heap) (v : Option AV) : Option (AV × Heap) :=
  match v with
  | some v => if v.cells.length = sz ∧ v.isTup = false then some (.ptr H.length 0 sz 0 0, H ++ [⟨0, true, ty, sz, [v.cells]⟩]) else none
  | none => none
def appK (ty sz bytes : Nat) (keep : Bool) (H : Heap) (s x : Option AV) : Option (AV × Heap) :=
  match s, x with
  | some s, some x => match srcRows H x with
    | some src => evApp ty sz bytes keep H s src
    | none => none
  | _, _ => none
def copyK (sz : Nat) (H : Heap) (d s : Option AV) : Option (AV × Heap) :=
  match d, s with
  | some d, some s => match srcRows H s with
    | some src => evCopy sz H d src
    | none => none
  | _, _ => none
def nilckK (x : Option AV) : Option AV :=
  match x with
  | some (.ptr b v s i o) => some (.ptr b v s i o)
  | some (.fptr cs) => some (.fptr cs)
  | some (.fn f c) => some (.fn f c)
  | _ => none
section
variable (T : Env) (H : Heap)
theorem p_mv (x : COpd) : evOp call T H (.mv x) = pureK H (evOpd T x) := evOp_pureK rfl
theorem p_pick (c a b : COpd) : evOp call T H (.pick c a b) = pureK H (pickK (evOpd T c) (evOpd T a) (evOpd T b)) := evOp_pureK rfl
theorem p_load (ag : Bool) (sz : Nat) (a : COpd) : evOp call T H (.load ag sz a) = pureK H (loadK ag sz H (evOpd T a)) := evOp_pureK rfl
theorem p_bin (op : BinOp) (x y : COpd) : evOp call T H (.bin op x y) = pureK H (binK op (evOpd T x) (evOpd T y)) := evOp_pureK rfl
theorem p_un (op : UnOp) (x : COpd) : evOp call T H (.un op x) = pureK H (unK op (evOpd T x)) := evOp_pureK rfl
theorem p_eqb (n : Bool) (x y : COpd) : evOp call T H (.eqb n x y) = pureK H (eqbK n (evOpd T x) (evOpd T y)) := evOp_pureK rfl
theorem p_eqs (n : Bool) (ks : List Nat) (x y : COpd) : evOp call T H (.eqs n ks x y) = pureK H (eqsK n ks (evOpd T x) (evOpd T y)) := evOp_pureK rfl
theorem p_eqn (n : Bool) (kd : Nat) (x y : COpd) : evOp call T H (.eqn n kd x y) = pureK H (eqnK n kd (evOpd T x) (evOpd T y)) := evOp_pureK rfl
theorem p_convI (k : IntKind) (x : COpd) : evOp call T H (.convI k x) = pureK H (convK k (evOpd T x)) := evOp_pureK rfl
theorem p_mkbnd (f : Nat) (x : COpd) : evOp call T H (.mkbnd f x) = pureK H (mkbndK f (evOpd T x)) := evOp_pureK rfl
theorem p_mkfn (f : Nat) (cs : List COpd) : evOp call T H (.mkfn f cs) = pureK H (mkfnK f (evOpds T cs)) := evOp_pureK rfl
theorem p_faddr (off : Nat) (x : COpd) : evOp call T H (.faddr off x) = pureK H (faddrK off (evOpd T x)) := evOp_pureK rfl
theorem p_field (ag : Bool) (off sz : Nat) (x : COpd) : evOp call T H (.field ag off sz x) = pureK H (fieldK ag off sz (evOpd T x)) := evOp_pureK rfl
theorem p_iaddr (sz : Nat) (x i : COpd) : evOp call T H (.iaddr sz x i) = pureK H (iaddrK sz (evOpd T x) (evOpd T i)) := (evOp_pureK rfl).trans (by
  congr 1
  simp only [evPure]
  cases evOpd T x with
  | none => rfl
  | some a =>
    cases evOpd T i with
    | none => cases a <;> rfl
    | some b =>
      cases a with
      | lst s => simp only [iaddrK]; cases asNat b <;> rfl
      | ref => simp only [iaddrK]; cases asNat b <;> rfl
      | cref => simp only [iaddrK]; cases asNat b <;> rfl
      | _ => rfl)
theorem p_idx (x i : COpd) : evOp call T H (.idx x i) = pureK H (idxK (evOpd T x) (evOpd T i)) := (evOp_pureK rfl).trans (by congr 1)
theorem p_extract (x : COpd) (i : Nat) : evOp call T H (.extract x i) = pureK H (extrK (evOpd T x) i) := evOp_pureK rfl
theorem p_len (b : Bool) (x : COpd) : evOp call T H (.len b x) = pureK H (lenK b (evOpd T x)) := evOp_pureK rfl
theorem p_nilck (x : COpd) : evOp call T H (.nilck x) = pureK H (nilckK (evOpd T x)) := evOp_pureK rfl
theorem p_build (z : List AV) (ps : List (Nat × Nat × COpd)) : evOp call T H (.build z ps) = pureK H ((fillParts T z ps).map .agg) := evOp_pureK rfl
theorem p_store (sz : Nat) (a x : COpd) : evOp call T H (.store sz a x) = storeK sz H (evOpd T a) (evOpd T x) := rfl
theorem p_box (ty sz : Nat) (x : COpd) : evOp call T H (.box ty sz x) = boxK ty sz H (evOpd T x) := rfl
theorem p_app (ty sz bytes : Nat) (keep : Bool) (s x : COpd) : evOp call T H (.app ty sz bytes keep s x) = appK ty sz bytes keep H (evOpd T s) (evOpd T x) := rfl
theorem p_copy (sz : Nat) (d s : COpd) : evOp call T H (.copy sz d s) = copyK sz H (evOpd T d) (evOpd T s) := rfl
end
end
section
variable {k : IntKind} (a b : Int) (s t : ByteArray)
theorem bin_eql : binK .eql (some (.int k a)) (some (.int k b)) = some (.bool (decide (a = b))) := by simp [binK, evBin, evInt]
theorem bin_neq : binK .neq (some (.int k a)) (some (.int k b)) = some (.bool (!decide (a = b))) := by simp [binK, evBin, evInt]
theorem bin_lss : binK .lss (some (.int k a)) (some (.int k b)) = some (.bool (decide (a < b))) := by simp [binK, evBin, evInt]
theorem bin_leq : binK .leq (some (.int k a)) (some (.int k b)) = some (.bool (decide (a ≤ b))) := by simp [binK, evBin, evInt]
theorem bin_gtr : binK .gtr (some (.int k a)) (some (.int k b)) = some (.bool (decide (b < a))) := by simp [binK, evBin, evInt]
theorem bin_geq : binK .geq (some (.int k a)) (some (.int k b)) = some (.bool (decide (b ≤ a))) := by simp [binK, evBin, evInt]
theorem bin_add : binK .add (some (.int k a)) (some (.int k b)) = some (.int k (k.wrap (a + b))) := by simp [binK, evBin, evInt]
theorem bin_sub : binK .sub (some (.int k a)) (some (.int k b)) = some (.int k (k.wrap (a - b))) := by simp [binK, evBin, evInt]
theorem bin_mul : binK .mul (some (.int k a)) (some (.int k b)) = some (.int k (k.wrap (a * b))) := by simp [binK, evBin, evInt]
theorem bin_quo : binK .quo (some (.int k a)) (some (.int k b)) = if b = 0 then none else some (.int k (k.wrap (a.tdiv b))) := by simp [binK, evBin, evInt]
theorem bin_rem : binK .rem (some (.int k a)) (some (.int k b)) = if b = 0 then none else some (.int k (a.tmod b)) := by simp [binK, evBin, evInt]
theorem toList_loop (s : ByteArray) : ∀ (n i : Nat) (r : List UInt8), s.size - i = n → ByteArray.toList.loop s i r = r.reverse ++ s.data.toList.drop i := by
  intro n
  induction n with
  | zero =>
    intro i r h
    unfold ByteArray.toList.loop
    have : s.data.toList.length = s.size := Array.length_toList
    rw [if_neg (by omega), List.drop_eq_nil_of_le (by omega)]
    simp
  | succ n ih =>
    intro i r h
    unfold ByteArray.toList.loop
    have hl : s.data.toList.length = s.size := Array.length_toList
    rw [if_pos (by omega), ih (i + 1) _ (by omega)]
    have hi : i < s.data.toList.length := by omega
    have : s.get! i = s.data.toList[i] := by
      have h1 : i < s.data.size := by rw [← Array.length_toList]; exact hi
      cases s
      exact getElem!_pos _ i h1
    rw [List.drop_eq_getElem_cons hi, this]
    simp
theorem toList_eq (s : ByteArray) : s.toList = s.data.toList := by
  unfold ByteArray.toList
  rw [toList_loop s (s.size - 0) 0 [] rfl]
  simp
theorem str_beq : (s.toList == t.toList) = decide (s = t) := by
  rw [toList_eq, toList_eq]
  by_cases h : s = t
  · subst h; simp
  · have : s.data ≠ t.data := fun e => h (data_ext e)
    simp [h, this]
def bLt (s t : ByteArray) : Bool := Op.bytesLess s.toList t.toList
theorem bin_seql : binK .eql (some (.str s)) (some (.str t)) = some (.bool (decide (s = t))) := by simp only [binK, evBin, evStr, str_beq]
theorem bin_sneq : binK .neq (some (.str s)) (some (.str t)) = some (.bool (!decide (s = t))) := by simp only [binK, evBin, evStr, str_beq]
theorem bin_slss : binK .lss (some (.str s)) (some (.str t)) = some (.bool (bLt s t)) := rfl
theorem bin_sleq : binK .leq (some (.str s)) (some (.str t)) = some (.bool (bLt s t || decide (s = t))) := by simp only [binK, evBin, evStr, str_beq, bLt]
theorem bin_sgtr : binK .gtr (some (.str s)) (some (.str t)) = some (.bool (!(bLt s t || decide (s = t)))) := by simp only [binK, evBin, evStr, str_beq, bLt]
theorem bin_sgeq : binK .geq (some (.str s)) (some (.str t)) = some (.bool (!bLt s t)) := rfl
theorem bin_sadd : binK .add (some (.str s)) (some (.str t)) = if s.size + t.size ≤ 9223372036854775807 then some (.str (s ++ t)) else none := rfl
theorem un_not (p : Bool) : unK .not (some (.bool p)) = some (.bool !p) := rfl
theorem un_neg : unK .neg (some (.int k a)) = some (.int k (k.wrap (0 - a))) := rfl
theorem pick_true (x y : Option AV) : pickK (some (.bool true)) x y = x := rfl
theorem pick_false (x y : Option AV) : pickK (some (.bool false)) x y = y := rfl
theorem load_fptr_true (sz : Nat) (H : Heap) (cs : List AV) : loadK true sz H (some (.fptr cs)) = if sz ≤ cs.length then some (.agg (cs.take sz)) else none := rfl
theorem load_fptr_false (sz : Nat) (H : Heap) (cs : List AV) : loadK false sz H (some (.fptr cs)) = cs[0]? := rfl
theorem load_ptr (ag : Bool) (sz : Nat) (H : Heap) (b v s i o : Nat) : loadK ag sz H (some (.ptr b v s i o)) = evLoad ag sz H (.ptr b v s i o) := rfl
theorem iaddr_lst (sz : Nat) (l : List (List AV)) (iv : AV) : iaddrK sz (some (.lst l)) (some iv) = rowK sz (atK l (asNat iv)) := rfl
theorem iaddr_ref (sz b v s off len : Nat) (iv : AV) : iaddrK sz (some (.ref b v s off len)) (some iv) = refK b v s off len sz (asNat iv) := rfl
theorem atK_some (l : List (List AV)) (n : Nat) : atK l (some n) = l[n]? := rfl
theorem rowK_some (sz : Nat) (row : List AV) : rowK sz (some row) = if row.length = sz then some (.fptr row) else none := rfl
theorem refK_some (b v s off len sz n : Nat) : refK b v s off len sz (some n) = if n < len ∧ s = sz then some (.ptr b v s (off + n) 0) else none := rfl
theorem len_lst (l : List (List AV)) : lenK false (some (.lst l)) = some (.int .i64 (l.length : Int)) := rfl
theorem len_ref (b v s o n : Nat) : lenK false (some (.ref b v s o n)) = some (.int .i64 (n : Int)) := rfl
theorem len_nils : lenK false (some .nils) = some (.int .i64 0) := rfl
theorem len_emp : lenK false (some .emp) = some (.int .i64 0) := rfl
theorem len_nil0 : lenK false (some .nil0) = some (.int .i64 0) := rfl
theorem len_str : lenK true (some (.str s)) = some (.int .i64 (s.size : Int)) := rfl
theorem faddr_ptr (off b v z i o : Nat) : faddrK off (some (.ptr b v z i o)) = some (.ptr b v z i (o + off)) := rfl
theorem faddr_fptr (off : Nat) (cs : List AV) : faddrK off (some (.fptr cs)) = some (.fptr (cs.drop off)) := rfl
theorem extr_tup (vs : List AV) (i : Nat) : extrK (some (.tup vs)) i = vs[i]? := rfl
theorem eqb_bool (n p q : Bool) : eqbK n (some (.bool p)) (some (.bool q)) = some (.bool (if n = true then !(p == q) else p == q)) := rfl
theorem conv_int (k' : IntKind) : convK k' (some (.int k a)) = some (.int k' (k'.wrap a)) := rfl
theorem cap_nil (vs : List AV) : capArgs [] vs = vs := List.append_nil vs
theorem cap_bnd (cs vs : List AV) : capArgs [.tup [], .agg cs] vs = .agg cs :: vs := rfl
theorem cap_nil0 (l vs : List AV) : capArgs (.nil0 :: l) vs = vs ++ .nil0 :: l := rfl
theorem cap_nils (l vs : List AV) : capArgs (.nils :: l) vs = vs ++ .nils :: l := rfl
theorem cap_emp (l vs : List AV) : capArgs (.emp :: l) vs = vs ++ .emp :: l := rfl
theorem cap_nilptr (l vs : List AV) : capArgs (.nilptr :: l) vs = vs ++ .nilptr :: l := rfl
theorem cap_nilfn (l vs : List AV) : capArgs (.nilfn :: l) vs = vs ++ .nilfn :: l := rfl
theorem cap_ptr {b v s i o : Nat} (l vs : List AV) : capArgs (.ptr b v s i o :: l) vs = vs ++ .ptr b v s i o :: l := rfl
theorem cap_fptr {cs : List AV} (l vs : List AV) : capArgs (.fptr cs :: l) vs = vs ++ .fptr cs :: l := rfl
theorem cap_int {k : IntKind} {n : Int} (l vs : List AV) : capArgs (.int k n :: l) vs = vs ++ .int k n :: l := rfl
theorem cap_bool {b : Bool} (l vs : List AV) : capArgs (.bool b :: l) vs = vs ++ .bool b :: l := rfl
theorem cap_str {s : ByteArray} (l vs : List AV) : capArgs (.str s :: l) vs = vs ++ .str s :: l := rfl
theorem cap_lst {l' : List (List AV)} (l vs : List AV) : capArgs (.lst l' :: l) vs = vs ++ .lst l' :: l := rfl
theorem cap_ref {b v s i o : Nat} (l vs : List AV) : capArgs (.ref b v s i o :: l) vs = vs ++ .ref b v s i o :: l := rfl
theorem cap_cref {b v s i o : Nat} (l vs : List AV) : capArgs (.cref b v s i o :: l) vs = vs ++ .cref b v s i o :: l := rfl
theorem cap_fn {f : Nat} {c : List AV} (l vs : List AV) : capArgs (.fn f c :: l) vs = vs ++ .fn f c :: l := rfl
theorem mkbnd_some (f : Nat) (cs : List AV) : mkbndK f (some (.agg cs)) = if cs.all AV.lit = true then some (.fn f [.tup [], .agg cs]) else none := rfl
theorem lit_int {k : IntKind} {n : Int} : (AV.int k n).lit = true := rfl
theorem mkfn_some (f : Nat) (cs : List AV) : mkfnK f (some cs) = if cs.all AV.scal = true then some (.fn f cs) else none := rfl
theorem store_some (sz : Nat) (H : Heap) (p v : AV) : storeK sz H (some p) (some v) = (evStore sz H v p).map fun H' => (.tup [], H') := rfl
theorem box_some (ty sz : Nat) (H : Heap) (v : AV) : boxK ty sz H (some v) = if v.cells.length = sz ∧ v.isTup = false then some (.ptr H.length 0 sz 0 0, H ++ [⟨0, true, ty, sz, [v.cells]⟩]) else none := rfl
end

/-! the heap's end -/
def blkK (k : Option Blk) (v s : Nat) : Option Blk :=
  match k with
  | some k => if k.live = true ∧ k.ver = v ∧ k.sz = s then some k else none
  | none => none
theorem curBlk_eq (H : Heap) (b v s : Nat) : curBlk H b v s = blkK H[b]? v s := rfl
theorem blkK_some (k : Blk) (v s : Nat) : blkK (some k) v s = if k.live = true ∧ k.ver = v ∧ k.sz = s then some k else none := rfl
theorem at_app (H l : Heap) (k : Nat) : (H ++ l)[H.length + k]? = l[k]? := by rw [List.getElem?_append_right (by omega)]; congr 1; omega
theorem at_app0 (H l : Heap) : (H ++ l)[H.length]? = l[0]? := by rw [List.getElem?_append_right (by omega)]; congr 1; omega
theorem set_app (H l : Heap) (k : Nat) (x : Blk) : (H ++ l).set (H.length + k) x = H ++ l.set k x := by rw [List.set_append_right _ _ (by omega)]; congr 2; omega
theorem set_app0 (H l : Heap) (x : Blk) : (H ++ l).set H.length x = H ++ l.set 0 x := by rw [List.set_append_right _ _ (by omega)]; congr 2; omega
def elK (i : Nat) (k : Option Blk) : Option (List AV) :=
  match k with
  | some k => k.els[i]?
  | none => none
def ldK (ag : Bool) (sz o : Nat) (cs : Option (List AV)) : Option AV :=
  match cs with
  | some cs => if ag = true then (if o + sz ≤ cs.length then some (.agg ((cs.drop o).take sz)) else none) else cs[o]?
  | none => none
theorem load_ptr' (ag : Bool) (sz : Nat) (H : Heap) (b v s i o : Nat) : loadK ag sz H (some (.ptr b v s i o)) = ldK ag sz o (elK i (curBlk H b v s)) := by
  simp only [loadK, evLoad]
  cases curBlk H b v s with
  | none => rfl
  | some k => simp only [elK]; cases k.els[i]? <;> rfl
theorem elK_some (i : Nat) (k : Blk) : elK i (some k) = k.els[i]? := rfl
theorem ldK_true (sz o : Nat) (cs : List AV) : ldK true sz o (some cs) = if o + sz ≤ cs.length then some (.agg ((cs.drop o).take sz)) else none := rfl
theorem ldK_false (sz o : Nat) (cs : List AV) : ldK false sz o (some cs) = cs[o]? := rfl
def stK (sz : Nat) (H : Heap) (b i o : Nat) (x : AV) (k : Option Blk) : Option (AV × Heap) :=
  match k with
  | some k => match k.els[i]? with
    | some cs => if x.cells.length = sz ∧ o + sz ≤ cs.length ∧ x.isTup = false then some (.tup [], H.set b { k with els := k.els.set i (spl cs o x.cells) }) else none
    | none => none
  | none => none
theorem store_ptr (sz : Nat) (H : Heap) (b v s i o : Nat) (x : AV) : storeK sz H (some (.ptr b v s i o)) (some x) = stK sz H b i o x (curBlk H b v s) := by
  simp only [storeK, evStore, stK]
  cases curBlk H b v s with
  | none => rfl
  | some k =>
    simp only
    cases k.els[i]? with
    | none => rfl
    | some cs => simp only; split <;> rfl
def stK2 (sz : Nat) (H : Heap) (b i o : Nat) (x : AV) (k : Blk) (cs : Option (List AV)) : Option (AV × Heap) :=
  match cs with
  | some cs => if x.cells.length = sz ∧ o + sz ≤ cs.length ∧ x.isTup = false then some (.tup [], H.set b { k with els := k.els.set i (spl cs o x.cells) }) else none
  | none => none
theorem stK_some (sz : Nat) (H : Heap) (b i o : Nat) (x : AV) (k : Blk) : stK sz H b i o x (some k) = stK2 sz H b i o x k k.els[i]? := rfl
theorem stK2_some (sz : Nat) (H : Heap) (b i o : Nat) (x : AV) (k : Blk) (cs : List AV) : stK2 sz H b i o x k (some cs) = if x.cells.length = sz ∧ o + sz ≤ cs.length ∧ x.isTup = false then some (.tup [], H.set b { k with els := k.els.set i (spl cs o x.cells) }) else none := rfl
theorem spl_nil (cs : List AV) (o : Nat) : spl cs o [] = cs := rfl
theorem spl_cons (cs : List AV) (o : Nat) (x : AV) (xs : List AV) : spl cs o (x :: xs) = spl (cs.set o x) (o + 1) xs := rfl
def flK (sz : Nat) (T : Env) (els : List (List AV)) (i : Nat) (ps : List (Nat × COpd)) (v : Option AV) : Option (List (List AV)) :=
  match v with
  | some v => if v.cells.length = sz ∧ i < els.length ∧ v.isTup = false then fillEls sz T (els.set i v.cells) ps else none
  | none => none
theorem fill_nil (sz : Nat) (T : Env) (els : List (List AV)) : fillEls sz T els [] = some els := rfl
theorem fill_cons (sz : Nat) (T : Env) (els : List (List AV)) (i : Nat) (x : COpd) (ps : List (Nat × COpd)) : fillEls sz T els ((i, x) :: ps) = flK sz T els i ps (evOpd T x) := rfl
theorem flK_some (sz : Nat) (T : Env) (els : List (List AV)) (i : Nat) (ps : List (Nat × COpd)) (v : AV) : flK sz T els i ps (some v) = if v.cells.length = sz ∧ i < els.length ∧ v.isTup = false then fillEls sz T (els.set i v.cells) ps else none := rfl
def fpK (T : Env) (cs : List AV) (off size : Nat) (ps : List (Nat × Nat × COpd)) (v : Option AV) : Option (List AV) :=
  match v with
  | some v => if v.cells.length = size ∧ off + size ≤ cs.length ∧ v.isTup = false then fillParts T (spl cs off v.cells) ps else none
  | none => none
theorem parts_nil (T : Env) (cs : List AV) : fillParts T cs [] = some cs := rfl
theorem parts_cons (T : Env) (cs : List AV) (off size : Nat) (x : COpd) (ps : List (Nat × Nat × COpd)) : fillParts T cs ((off, size, x) :: ps) = fpK T cs off size ps (evOpd T x) := rfl
theorem fpK_some (T : Env) (cs : List AV) (off size : Nat) (ps : List (Nat × Nat × COpd)) (v : AV) : fpK T cs off size ps (some v) = if v.cells.length = size ∧ off + size ≤ cs.length ∧ v.isTup = false then fillParts T (spl cs off v.cells) ps else none := rfl
def bslK (ty sz : Nat) (H : Heap) (els : Option (List (List AV))) : Option (AV × Heap) :=
  match els with
  | some [] => some (.nil0, H)
  | some (e :: es) => some (.ref H.length 0 sz 0 (es.length + 1), H ++ [⟨0, true, ty, sz, e :: es⟩])
  | none => none
theorem p_bslice {call} (T : Env) (H : Heap) (ty sz : Nat) (els : List (List AV)) (ps : List (Nat × COpd)) : evOp call T H (.bslice ty sz els ps) = bslK ty sz H (fillEls sz T els ps) := rfl
theorem bslK_nil (ty sz : Nat) (H : Heap) : bslK ty sz H (some []) = some (.nil0, H) := rfl
theorem bslK_cons (ty sz : Nat) (H : Heap) (e : List AV) (es : List (List AV)) : bslK ty sz H (some (e :: es)) = some (.ref H.length 0 sz 0 (es.length + 1), H ++ [⟨0, true, ty, sz, e :: es⟩]) := rfl
theorem noRef_bool (b : Bool) : noRef (.bool b) = true := rfl
theorem noRef_int (k : IntKind) (b : Int) : noRef (.int k b) = true := rfl
theorem noRef_str (b : ByteArray) : noRef (.str b) = true := rfl
theorem noRef_lst (b : List (List AV)) : noRef (.lst b) = true := rfl
theorem noRef_tup (b : List AV) : noRef (.tup b) = b.all noRef1 := rfl
theorem noRef_agg (b : List AV) : noRef (.agg b) = b.all noRef0 := rfl
theorem noRef_ref (b v s o n : Nat) : noRef (.ref b v s o n) = false := rfl
theorem noRef1_ref (b v s o n : Nat) : noRef1 (.ref b v s o n) = false := rfl
theorem noRef0_ref (b v s o n : Nat) : noRef0 (.ref b v s o n) = false := rfl
theorem noRef1_bool (b : Bool) : noRef1 (.bool b) = true := rfl
theorem noRef1_int (k : IntKind) (b : Int) : noRef1 (.int k b) = true := rfl
theorem noRef1_str (b : ByteArray) : noRef1 (.str b) = true := rfl
theorem noRef1_lst (b : List (List AV)) : noRef1 (.lst b) = true := rfl
theorem noRef1_nils : noRef1 .nils = true := rfl
theorem noRef1_nil0 : noRef1 .nil0 = true := rfl
theorem noRef1_emp : noRef1 .emp = true := rfl
theorem noRef1_nilptr : noRef1 .nilptr = true := rfl
theorem noRef1_agg (b : List AV) : noRef1 (.agg b) = b.all noRef0 := rfl
theorem noRef0_bool (b : Bool) : noRef0 (.bool b) = true := rfl
theorem noRef0_int (k : IntKind) (b : Int) : noRef0 (.int k b) = true := rfl
theorem noRef0_str (b : ByteArray) : noRef0 (.str b) = true := rfl
theorem noRef0_lst (b : List (List AV)) : noRef0 (.lst b) = true := rfl
theorem noRef0_nils : noRef0 .nils = true := rfl
theorem noRef0_nil0 : noRef0 .nil0 = true := rfl
theorem noRef0_emp : noRef0 .emp = true := rfl
theorem noRef0_nilptr : noRef0 .nilptr = true := rfl

/-! what a caller sees -/
def calK (frz : Bool) (H : Heap) (r : Option (AV × Heap)) : Option (AV × Heap) :=
  match r with
  | some (r, H1) =>
    if frz = true then (match fzRes H1 r with
      | some (r', ids) => some (r', gc H r' (kill H1 ids))
      | none => none)
    else some (r, gc H r H1)
  | none => none
theorem cal_eq (call) (frz : Bool) (g : Nat) (vs : List AV) (H : Heap) : cal call frz g vs H = calK frz H (call g vs H) := rfl
theorem calK_f (H : Heap) (r : AV) (H1 : Heap) : calK false H (some (r, H1)) = some (r, gc H r H1) := rfl
theorem calK_ite (frz : Bool) (H : Heap) (p : Prop) [Decidable p] (x y : Option (AV × Heap)) : calK frz H (if p then x else y) = if p then calK frz H x else calK frz H y := by split <;> rfl
theorem gc_same (H : Heap) (r : AV) : gc H r H = H := by unfold gc; split <;> rfl
theorem gc_app (H l : Heap) (r : AV) (h : noRef r = true) : gc H r (H ++ l) = H := by
  unfold gc
  rw [if_pos ⟨h, by rw [List.take_left']; exact heq_refl H; rfl⟩]
theorem gc_end (H l : Heap) (r : AV) : gc H r (H ++ l) = if noRef r = true then H else H ++ l := by
  split
  · exact gc_app H l r ‹_›
  · unfold gc; rw [if_neg (fun h => absurd h.1 ‹_›)]
theorem cal_of {cprog : Nat → Option CFn} {g : Nat} {c : CFn} (h : cprog g = some c) (frz : Bool) (vs : List AV) (H : Heap) : cal (evC cprog) frz g vs H = calK frz H (evFn (evC cprog) itLim c vs H) := by
  rw [cal_eq, evC_fn h]

/-! environments -/
theorem get_cons (i j : Nat) (v : AV) (T : Env) : get ((j, v) :: T) i = if j = i then some v else get T i := rfl
theorem get_nil (i : Nat) : get [] i = none := rfl
theorem put_some (T : Env) (d : Nat) (v : AV) : put T (some d) v = (d, v) :: T := rfl
theorem put_none (T : Env) (v : AV) : put T none v = T := rfl
def keepK (i : Nat) (v : Option AV) (T : Env) : Env :=
  match v with
  | some v => (i, v) :: T
  | none => T
theorem keep_nil (T : Env) : keepEnv T [] = [] := rfl
theorem keep_cons (T : Env) (i : Nat) (m : List Nat) : keepEnv T (i :: m) = keepK i (get T i) (keepEnv T m) := by
  simp only [keepEnv, keepK]
  cases get T i <;> rfl
theorem keepK_some (i : Nat) (v : AV) (T : Env) : keepK i (some v) T = (i, v) :: T := rfl
theorem opd_t (T : Env) (i : Nat) : evOpd T (.t i) = get T i := rfl
theorem opd_c (T : Env) (a : AV) : evOpd T (.c a) = some a := rfl
def opdsK (v : Option AV) (vs : Option (List AV)) : Option (List AV) :=
  match v, vs with
  | some v, some vs => some (v :: vs)
  | _, _ => none
theorem opds_nil (T : Env) : evOpds T [] = some [] := rfl
theorem opds_cons (T : Env) (x : COpd) (l : List COpd) : evOpds T (x :: l) = opdsK (evOpd T x) (evOpds T l) := rfl
theorem opdsK_some (v : AV) (vs : List AV) : opdsK (some v) (some vs) = some (v :: vs) := rfl

/-! functions -/
def bodyK (res : List CRes) (r : Option (CX × St)) : Option (AV × Heap) :=
  match r with
  | some (.normal, T, H') => (evRess T H' res).map fun vs => (packRes vs, H')
  | some (.ret, T, H') => (evRess T H' res).map fun vs => (packRes vs, H')
  | _ => none
theorem body_eq (call it) (c : CFn) (args : List AV) (H : Heap) : evBody call it c args H = bodyK c.res (evCode call it c.body (argEnv 0 args, H)) := rfl
theorem bodyK_ret (res : List CRes) (T : Env) (H : Heap) : bodyK res (some (.ret, T, H)) = (evRess T H res).map fun vs => (packRes vs, H) := rfl
theorem bodyK_normal (res : List CRes) (T : Env) (H : Heap) : bodyK res (some (.normal, T, H)) = (evRess T H res).map fun vs => (packRes vs, H) := rfl
theorem bodyK_ite (res : List CRes) (p : Prop) [Decidable p] (x y : Option (CX × St)) : bodyK res (if p then x else y) = if p then bodyK res x else bodyK res y := by split <;> rfl
theorem fn_eq {call it} {n : Nat} {res : List CRes} {body : CC} (args : List AV) (H : Heap) : evFn call it ⟨n, res, body, false, false⟩ args H = bodyK res (evCode call it body (argEnv 0 args, H)) := by
  simp only [evFn, body_eq]
  rfl

def rtK (v : Option AV) : Option AV :=
  match v with
  | some v => if v.isTup = true then none else some v
  | none => none
theorem r_nil (T : Env) (H : Heap) : evRess T H [] = some [] := rfl
theorem r_cons (T : Env) (H : Heap) (r : CRes) (l : List CRes) : evRess T H (r :: l) = opdsK (evRes T H r) (evRess T H l) := rfl
theorem r_t (T : Env) (H : Heap) (i : Nat) : evRes T H (.t i) = rtK (get T i) := rfl
theorem r_cell (T : Env) (H : Heap) (i : Nat) (ag : Bool) (sz : Nat) : evRes T H (.cell i ag sz) = loadK ag sz H (get T i) := rfl
theorem fn_closed {call it} {n : Nat} {res : List CRes} {body : CC} {sp b : Bool} {H1 H : Heap} (h : evBody call it ⟨n, res, body, sp, true⟩ [] [] = some (.bool b, H1)) : evFn call it ⟨n, res, body, sp, true⟩ [] H = some (.bool b, H) := by
  unfold evFn
  rw [if_pos rfl]
  simp only [h]
theorem rtK_some (v : AV) : rtK (some v) = if v.isTup = true then none else some v := rfl
theorem pack_one (v : AV) : packRes [v] = v := rfl
theorem pack_two (v u : AV) (l : List AV) : packRes (v :: u :: l) = .tup (v :: u :: l) := rfl
theorem pack_three (a b c : AV) : packRes [a, b, c] = .tup [a, b, c] := rfl
theorem pack_four (a b c d : AV) : packRes [a, b, c, d] = .tup [a, b, c, d] := rfl

theorem cells_int (k : IntKind) (n : Int) : (AV.int k n).cells = [.int k n] := rfl
theorem isTup_int (k : IntKind) (n : Int) : (AV.int k n).isTup = false := rfl
theorem cells_bool (b : Bool) : (AV.bool b).cells = [.bool b] := rfl
theorem isTup_bool (b : Bool) : (AV.bool b).isTup = false := rfl
theorem cells_str (s : ByteArray) : (AV.str s).cells = [.str s] := rfl
theorem isTup_str (s : ByteArray) : (AV.str s).isTup = false := rfl
theorem cells_nils  : (AV.nils ).cells = [.nils ] := rfl
theorem isTup_nils  : (AV.nils ).isTup = false := rfl
theorem cells_emp  : (AV.emp ).cells = [.emp ] := rfl
theorem isTup_emp  : (AV.emp ).isTup = false := rfl
theorem cells_nil0  : (AV.nil0 ).cells = [.nil0 ] := rfl
theorem isTup_nil0  : (AV.nil0 ).isTup = false := rfl
theorem cells_lst (l : List (List AV)) : (AV.lst l).cells = [.lst l] := rfl
theorem isTup_lst (l : List (List AV)) : (AV.lst l).isTup = false := rfl
theorem cells_ref (b v z o n : Nat) : (AV.ref b v z o n).cells = [.ref b v z o n] := rfl
theorem isTup_ref (b v z o n : Nat) : (AV.ref b v z o n).isTup = false := rfl
theorem cells_cref (b v z o n : Nat) : (AV.cref b v z o n).cells = [.cref b v z o n] := rfl
theorem isTup_cref (b v z o n : Nat) : (AV.cref b v z o n).isTup = false := rfl
theorem cells_ptr (b v z o n : Nat) : (AV.ptr b v z o n).cells = [.ptr b v z o n] := rfl
theorem isTup_ptr (b v z o n : Nat) : (AV.ptr b v z o n).isTup = false := rfl
theorem cells_fptr (l : List AV) : (AV.fptr l).cells = [.fptr l] := rfl
theorem isTup_fptr (l : List AV) : (AV.fptr l).isTup = false := rfl
theorem cells_nilptr  : (AV.nilptr ).cells = [.nilptr ] := rfl
theorem isTup_nilptr  : (AV.nilptr ).isTup = false := rfl
theorem cells_nilfn  : (AV.nilfn ).cells = [.nilfn ] := rfl
theorem isTup_nilfn  : (AV.nilfn ).isTup = false := rfl
theorem cells_fn (f : Nat) (l : List AV) : (AV.fn f l).cells = [.fn f l] := rfl
theorem isTup_fn (f : Nat) (l : List AV) : (AV.fn f l).isTup = false := rfl
theorem cells_agg (l : List AV) : (AV.agg l).cells = l := rfl
theorem isTup_agg (l : List AV) : (AV.agg l).isTup = false := rfl
theorem isTup_tup (l : List AV) : (AV.tup l).isTup = true := rfl

/-! loops -/
/-- what a round of a loop has to leave -/
structure LoopQ {σ : Type} (m : List Nat) (env : σ → Env) (hp : σ → Heap) (P : σ → CX × St → Prop) (mu : σ → Nat) (I : σ → Prop) (x : σ) (o : Option (CX × St)) : Prop where
  ok : ∃ r, o = some r ∧ match r.1 with
    | .normal => ∃ y, keepEnv r.2.1 m = env y ∧ r.2.2 = hp y ∧ I y ∧ mu y < mu x ∧ ∀ r', P y r' → P x r'
    | _ => P x r
section
variable {σ : Type} {m : List Nat} {env : σ → Env} {hp : σ → Heap} {P : σ → CX × St → Prop} {mu : σ → Nat} {I : σ → Prop} {x : σ}
theorem q_ret {s : St} (h : P x (.ret, s)) : LoopQ m env hp P mu I x (some (.ret, s)) := ⟨_, rfl, h⟩
theorem q_exit {i : Nat} {s : St} (h : P x (.exit i, s)) : LoopQ m env hp P mu I x (some (.exit i, s)) := ⟨_, rfl, h⟩
theorem q_next {T : Env} {H : Heap} (y : σ) (h1 : keepEnv T m = env y) (h2 : H = hp y) (h3 : I y) (h4 : mu y < mu x) (h5 : ∀ r', P y r' → P x r') : LoopQ m env hp P mu I x (some (.normal, T, H)) :=
  ⟨_, rfl, y, h1, h2, h3, h4, h5⟩
theorem loop_rule (body : St → Option (CX × St)) (step : ∀ x, I x → ∀ E, keepEnv E m = env x → LoopQ m env hp P mu I x (body (E, hp x))) :
    ∀ (x : σ) (st : St), I x → keepEnv st.1 m = env x → st.2 = hp x → ∀ z, itLim body st = z → ∃ r, z = some r ∧ P x r := by
  have key : ∀ (n : Nat) (x : σ) (E : Env), mu x < n → I x → keepEnv E m = env x → ∃ r, itLim body (E, hp x) = some r ∧ P x r := by
    intro n
    induction n with
    | zero => intro x E h; omega
    | succ n ih =>
      intro x E hn hI hE
      obtain ⟨⟨e, T, H⟩, h1, h2⟩ := (step x hI E hE).ok
      cases e with
      | normal =>
        obtain ⟨y, k1, k2, k3, k4, k5⟩ := h2
        simp only at k1 k2
        subst k2
        obtain ⟨r, l1, l2⟩ := ih y T (by omega) k3 k1
        refine ⟨r, ?_, k5 r l2⟩
        rw [itLim_eq, h1]
        exact l1
      | exit i => exact ⟨_, by rw [itLim_eq, h1], h2⟩
      | ret => exact ⟨_, by rw [itLim_eq, h1], h2⟩
  intro x st hI hE hH z hz
  obtain ⟨E, H⟩ := st
  simp only at hE hH
  subst hH
  obtain ⟨r, h1, h2⟩ := key (mu x + 1) x E (Nat.lt_succ_self _) hI hE
  exact ⟨r, hz.symm.trans h1, h2⟩
end

/-! whole numbers -/
theorem wrap_i64 {n : Int} (h1 : -9223372036854775808 ≤ n) (h2 : n ≤ 9223372036854775807) : IntKind.i64.wrap n = n := IntWalk.i64_in n ⟨h1, h2⟩
theorem asNat_cast (k : IntKind) (n : Nat) : asNat (.int k (n : Int)) = some n := by
  simp [asNat]
theorem asNat_lit (k : IntKind) (n : Nat) : asNat (.int k (OfNat.ofNat n : Int)) = some n := by
  have : (OfNat.ofNat n : Int) = (n : Int) := rfl
  rw [this]; exact asNat_cast k n
/- All rules as one (a conjunction, so that a text names them by one word). -/
set_option linter.defProp false in
def evR := (And.intro (And.intro (And.intro (And.intro (And.intro (And.intro (And.intro (And.intro @cap_nil @cap_bnd) (And.intro @cap_nil0 @cap_nils)) (And.intro (And.intro @cap_emp @cap_nilptr) (And.intro @cap_nilfn @cap_ptr))) (And.intro (And.intro (And.intro @cap_fptr @cap_int) (And.intro @cap_bool @cap_str)) (And.intro (And.intro @cap_lst @cap_ref) (And.intro @cap_cref @cap_fn)))) (And.intro (And.intro (And.intro (And.intro @p_qcall @qcK_same) (And.intro @and_self @true_and)) (And.intro (And.intro @and_true @false_and) (And.intro @and_false @gc_end))) (And.intro (And.intro (And.intro @noRef_bool @noRef_int) (And.intro @noRef_str @noRef_lst)) (And.intro (And.intro @noRef_tup @noRef_agg) (And.intro @noRef1_bool (And.intro @noRef1_int @noRef1_str)))))) (And.intro (And.intro (And.intro (And.intro (And.intro @noRef1_lst @noRef1_nils) (And.intro @noRef1_nil0 @noRef1_emp)) (And.intro (And.intro @noRef1_nilptr @noRef1_agg) (And.intro @noRef0_bool @noRef0_int))) (And.intro (And.intro (And.intro @noRef0_str @noRef0_lst) (And.intro @noRef0_nils @noRef0_nil0)) (And.intro (And.intro @noRef0_emp @noRef0_nilptr) (And.intro @List.all_cons.{0} (And.intro @List.all_nil.{0} @List.append_assoc.{0}))))) (And.intro (And.intro (And.intro (And.intro @List.length_append.{0} @Nat.zero_add) (And.intro @Nat.add_zero @Nat.lt_irrefl)) (And.intro (And.intro @Nat.le_refl @curBlk_eq) (And.intro @blkK_some @at_app))) (And.intro (And.intro (And.intro @at_app0 @set_app) (And.intro @set_app0 @List.set_cons_zero.{0})) (And.intro (And.intro @List.set_cons_succ.{0} @load_ptr') (And.intro @elK_some (And.intro @ldK_true @ldK_false))))))) (And.intro (And.intro (And.intro (And.intro (And.intro (And.intro @store_ptr @stK_some) (And.intro @stK2_some @spl_nil)) (And.intro (And.intro @spl_cons @p_bslice) (And.intro @bslK_nil @bslK_cons))) (And.intro (And.intro (And.intro @fill_nil @fill_cons) (And.intro @flK_some @parts_nil)) (And.intro (And.intro @parts_cons @fpK_some) (And.intro @Nat.add_assoc (And.intro @calK_f @gc_same))))) (And.intro (And.intro (And.intro (And.intro @decide_true @decide_false) (And.intro @Bool.true_and @Bool.false_and)) (And.intro (And.intro @Bool.and_true @Bool.and_false) (And.intro @Bool.true_or @Bool.false_or))) (And.intro (And.intro (And.intro @Bool.or_true @Bool.or_false) (And.intro @Bool.not_true @Bool.not_false)) (And.intro (And.intro @c_skip @c_seq) (And.intro @c_cond (And.intro @c_block @c_region)))))) (And.intro (And.intro (And.intro (And.intro (And.intro @c_drawp @plainD_nil) (And.intro @plainD_cons @drawK_true)) (And.intro (And.intro @decide_eq_true_eq @c_loop) (And.intro @c_exit @c_ret))) (And.intro (And.intro (And.intro @c_rfb @seqK_normal) (And.intro @seqK_exit @seqK_ret)) (And.intro (And.intro @seqK_none @condK_true) (And.intro @condK_false (And.intro @blockK_normal @blockK_exit))))) (And.intro (And.intro (And.intro (And.intro @blockK_ret @regK_some) (And.intro @o_nil @o_cons)) (And.intro (And.intro @o_guard @nextK_some) (And.intro @guardK_tt @guardK_ff))) (And.intro (And.intro (And.intro @guardK_tf @guardK_ft) (And.intro @guardK_tup @p_call)) (And.intro (And.intro @callK_fn @p_mv) (And.intro @p_pick (And.intro @p_load @p_bin)))))))) (And.intro (And.intro (And.intro (And.intro (And.intro (And.intro (And.intro @p_un @p_eqb) (And.intro @p_eqs @p_eqn)) (And.intro (And.intro @p_convI @p_mkfn) (And.intro @p_faddr @p_field))) (And.intro (And.intro (And.intro @p_iaddr @p_idx) (And.intro @p_extract @p_len)) (And.intro (And.intro @p_nilck @p_build) (And.intro @p_store @p_box)))) (And.intro (And.intro (And.intro (And.intro @p_app @p_copy) (And.intro @pureK_some @bin_eql)) (And.intro (And.intro @bin_neq @bin_lss) (And.intro @bin_leq @bin_gtr))) (And.intro (And.intro (And.intro @bin_geq @bin_add) (And.intro @bin_sub @bin_mul)) (And.intro (And.intro @bin_quo @bin_rem) (And.intro @bin_seql (And.intro @bin_sneq @bin_slss)))))) (And.intro (And.intro (And.intro (And.intro (And.intro @bin_sleq @bin_sgtr) (And.intro @bin_sgeq @bin_sadd)) (And.intro (And.intro @un_not @un_neg) (And.intro @pick_true @pick_false))) (And.intro (And.intro (And.intro @load_fptr_true @load_fptr_false) (And.intro @iaddr_lst @iaddr_ref)) (And.intro (And.intro @atK_some @rowK_some) (And.intro @refK_some (And.intro @len_lst @len_ref))))) (And.intro (And.intro (And.intro (And.intro @len_nils @len_emp) (And.intro @len_nil0 @len_str)) (And.intro (And.intro @faddr_ptr @faddr_fptr) (And.intro @extr_tup @eqb_bool))) (And.intro (And.intro (And.intro @conv_int @mkfn_some) (And.intro @box_some @get_cons)) (And.intro (And.intro @get_nil @put_some) (And.intro @put_none (And.intro @keep_nil @keep_cons))))))) (And.intro (And.intro (And.intro (And.intro (And.intro (And.intro @keepK_some @opd_t) (And.intro @opd_c @opds_nil)) (And.intro (And.intro @opds_cons @opdsK_some) (And.intro @bodyK_ret @bodyK_normal))) (And.intro (And.intro (And.intro @r_nil @r_cons) (And.intro @r_t @r_cell)) (And.intro (And.intro @rtK_some @pack_one) (And.intro @pack_two (And.intro @pack_three @pack_four))))) (And.intro (And.intro (And.intro (And.intro @noRef_ref @noRef1_ref) (And.intro @noRef0_ref @Bool.and_false)) (And.intro (And.intro @asNat_cast @asNat_lit) (And.intro @cells_int @isTup_int))) (And.intro (And.intro (And.intro @cells_bool @isTup_bool) (And.intro @cells_str @isTup_str)) (And.intro (And.intro @cells_nils @isTup_nils) (And.intro @cells_emp (And.intro @isTup_emp @cells_nil0)))))) (And.intro (And.intro (And.intro (And.intro (And.intro @isTup_nil0 @cells_lst) (And.intro @isTup_lst @cells_ref)) (And.intro (And.intro @isTup_ref @cells_cref) (And.intro @isTup_cref @cells_ptr))) (And.intro (And.intro (And.intro @isTup_ptr @cells_fptr) (And.intro @isTup_fptr @cells_nilptr)) (And.intro (And.intro @isTup_nilptr @cells_nilfn) (And.intro @isTup_nilfn (And.intro @cells_fn @isTup_fn))))) (And.intro (And.intro (And.intro (And.intro @cells_agg @isTup_agg) (And.intro @isTup_tup @List.length_cons.{0})) (And.intro (And.intro @List.length_nil.{0} @List.cons_append.{0}) (And.intro @List.nil_append.{0} @List.append_nil.{0}))) (And.intro (And.intro (And.intro @Option.map_some.{0,0} @List.getElem?_cons_zero.{0}) (And.intro @List.getElem?_cons_succ.{0} @List.take_succ_cons.{0})) (And.intro (And.intro @List.take_zero.{0} @List.drop_succ_cons.{0}) (And.intro @List.drop_zero.{0} (And.intro @Bool.false_eq_true @Bool.not_eq_true)))))))))
end Go.Proofs.YtbdpceigmnpoaaaGreatDoor.Ev
