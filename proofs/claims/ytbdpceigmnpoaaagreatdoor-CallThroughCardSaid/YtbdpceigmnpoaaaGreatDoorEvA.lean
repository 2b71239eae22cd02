/- Our own words: abstract values, an abstract heap, a compact code and its deterministic evaluator. Nothing of a program in sight. -/
import Derived.Calls
set_option linter.unusedSimpArgs false
set_option linter.unusedVariables false
namespace Go.Proofs.YtbdpceigmnpoaaaGreatDoor.Ev

inductive AV where
  | int (k : IntKind) (n : Int)
  | bool (b : Bool)
  | str (s : ByteArray)
  | nils
  | emp
  | nil0
  | lst (l : List (List AV))
  | ref (b v sz off len : Nat)
  | cref (b v sz off len : Nat)
  | ptr (b v sz i off : Nat)
  | fptr (cs : List AV)
  | nilptr
  | nilfn
  | fn (f : Nat) (cap : List AV)
  | agg (cs : List AV)
  | tup (vs : List AV)
deriving Inhabited

structure Blk where
  ver : Nat
  live : Bool
  ty : Nat
  sz : Nat
  els : List (List AV)
deriving Inhabited

abbrev Heap := List Blk
abbrev Env := List (Nat × AV)

mutual
def AV.beq : AV → AV → Bool
  | .int k n, .int k' n' => decide (k = k') && decide (n = n')
  | .bool b, .bool b' => b == b'
  | .str s, .str t => decide (s.data = t.data)
  | .nils, .nils => true
  | .emp, .emp => true
  | .nil0, .nil0 => true
  | .lst l, .lst l' => AV.beqLL l l'
  | .ref b v s o n, .ref b' v' s' o' n' => decide (b = b') && decide (v = v') && decide (s = s') && decide (o = o') && decide (n = n')
  | .cref b v s o n, .cref b' v' s' o' n' => decide (b = b') && decide (v = v') && decide (s = s') && decide (o = o') && decide (n = n')
  | .ptr b v s o n, .ptr b' v' s' o' n' => decide (b = b') && decide (v = v') && decide (s = s') && decide (o = o') && decide (n = n')
  | .fptr cs, .fptr cs' => AV.beqL cs cs'
  | .nilptr, .nilptr => true
  | .nilfn, .nilfn => true
  | .fn f c, .fn f' c' => decide (f = f') && AV.beqL c c'
  | .agg cs, .agg cs' => AV.beqL cs cs'
  | .tup cs, .tup cs' => AV.beqL cs cs'
  | _, _ => false
def AV.beqL : List AV → List AV → Bool
  | [], [] => true
  | x :: l, y :: l' => AV.beq x y && AV.beqL l l'
  | _, _ => false
def AV.beqLL : List (List AV) → List (List AV) → Bool
  | [], [] => true
  | x :: l, y :: l' => AV.beqL x y && AV.beqLL l l'
  | _, _ => false
end

mutual
theorem AV.beq_refl : ∀ a : AV, AV.beq a a = true
  | .int _ _ => by simp [AV.beq]
  | .bool _ => by simp [AV.beq]
  | .str _ => by simp [AV.beq]
  | .nils => rfl
  | .emp => rfl
  | .nil0 => rfl
  | .lst l => by simp only [AV.beq]; exact AV.beqLL_refl l
  | .ref .. => by simp [AV.beq]
  | .cref .. => by simp [AV.beq]
  | .ptr .. => by simp [AV.beq]
  | .fptr cs => by simp only [AV.beq]; exact AV.beqL_refl cs
  | .nilptr => rfl
  | .nilfn => rfl
  | .fn f c => by simp only [AV.beq, AV.beqL_refl c]; simp
  | .agg cs => by simp only [AV.beq]; exact AV.beqL_refl cs
  | .tup cs => by simp only [AV.beq]; exact AV.beqL_refl cs
theorem AV.beqL_refl : ∀ l : List AV, AV.beqL l l = true
  | [] => rfl
  | x :: l => by simp only [AV.beqL, AV.beq_refl x, AV.beqL_refl l]; rfl
theorem AV.beqLL_refl : ∀ l : List (List AV), AV.beqLL l l = true
  | [] => rfl
  | x :: l => by simp only [AV.beqLL, AV.beqL_refl x, AV.beqLL_refl l]; rfl
end

theorem data_ext {s t : ByteArray} (h : s.data = t.data) : s = t := by
  cases s; cases t; simp_all

mutual
theorem AV.eq_of_beq : ∀ a b : AV, AV.beq a b = true → a = b
  | .int k n, b, h => by cases b <;> simp_all [AV.beq]
  | .bool _, b, h => by cases b <;> simp_all [AV.beq]
  | .str s, b, h => by cases b <;> simp_all [AV.beq]; exact data_ext h
  | .nils, b, h => by cases b <;> simp_all [AV.beq]
  | .emp, b, h => by cases b <;> simp_all [AV.beq]
  | .nil0, b, h => by cases b <;> simp_all [AV.beq]
  | .lst l, b, h => by
    cases b with
    | lst l' => rw [AV.eq_of_beqLL l l' (by simpa [AV.beq] using h)]
    | _ => simp [AV.beq] at h
  | .ref .., b, h => by cases b <;> simp_all [AV.beq]
  | .cref .., b, h => by cases b <;> simp_all [AV.beq]
  | .ptr .., b, h => by cases b <;> simp_all [AV.beq]
  | .fptr cs, b, h => by
    cases b with
    | fptr cs' => rw [AV.eq_of_beqL cs cs' (by simpa [AV.beq] using h)]
    | _ => simp [AV.beq] at h
  | .nilptr, b, h => by cases b <;> simp_all [AV.beq]
  | .nilfn, b, h => by cases b <;> simp_all [AV.beq]
  | .fn f c, b, h => by
    cases b with
    | fn f' c' =>
      simp only [AV.beq, Bool.and_eq_true, decide_eq_true_eq] at h
      rw [h.1, AV.eq_of_beqL c c' h.2]
    | _ => simp [AV.beq] at h
  | .agg cs, b, h => by
    cases b with
    | agg cs' => rw [AV.eq_of_beqL cs cs' (by simpa [AV.beq] using h)]
    | _ => simp [AV.beq] at h
  | .tup cs, b, h => by
    cases b with
    | tup cs' => rw [AV.eq_of_beqL cs cs' (by simpa [AV.beq] using h)]
    | _ => simp [AV.beq] at h
theorem AV.eq_of_beqL : ∀ l l' : List AV, AV.beqL l l' = true → l = l'
  | [], l', h => by cases l' <;> simp_all [AV.beqL]
  | x :: l, l', h => by
    cases l' with
    | nil => simp [AV.beqL] at h
    | cons y l' =>
      simp only [AV.beqL, Bool.and_eq_true] at h
      rw [AV.eq_of_beq x y h.1, AV.eq_of_beqL l l' h.2]
theorem AV.eq_of_beqLL : ∀ l l' : List (List AV), AV.beqLL l l' = true → l = l'
  | [], l', h => by cases l' <;> simp_all [AV.beqLL]
  | x :: l, l', h => by
    cases l' with
    | nil => simp [AV.beqLL] at h
    | cons y l' =>
      simp only [AV.beqLL, Bool.and_eq_true] at h
      rw [AV.eq_of_beqL x y h.1, AV.eq_of_beqLL l l' h.2]
end

def Blk.beq (a b : Blk) : Bool :=
  decide (a.ver = b.ver) && a.live == b.live && decide (a.ty = b.ty) && decide (a.sz = b.sz) && AV.beqLL a.els b.els
theorem Blk.beq_refl (a : Blk) : Blk.beq a a = true := by simp [Blk.beq, AV.beqLL_refl]
theorem Blk.eq_of_beq {a b : Blk} (h : Blk.beq a b = true) : a = b := by
  simp only [Blk.beq, Bool.and_eq_true, decide_eq_true_eq, beq_iff_eq] at h
  obtain ⟨⟨⟨⟨h1, h2⟩, h3⟩, h4⟩, h5⟩ := h
  have := AV.eq_of_beqLL _ _ h5
  cases a; cases b; simp_all
def heq : Heap → Heap → Bool
  | [], [] => true
  | x :: l, y :: l' => Blk.beq x y && heq l l'
  | _, _ => false
theorem heq_refl : ∀ h : Heap, heq h h = true
  | [] => rfl
  | x :: l => by simp [heq, Blk.beq_refl, heq_refl l]
theorem eq_of_heq : ∀ {h h' : Heap}, heq h h' = true → h = h'
  | [], h', e => by cases h' <;> simp_all [heq]
  | x :: l, h', e => by
    cases h' with
    | nil => simp [heq] at e
    | cons y l' =>
      simp only [heq, Bool.and_eq_true] at e
      rw [Blk.eq_of_beq e.1, eq_of_heq e.2]

/-! the compact code -/

inductive COpd where
  | t (i : Nat)
  | c (a : AV)
deriving Inhabited

inductive CO where
  | mv (x : COpd)
  | pick (c a b : COpd)
  | box (ty sz : Nat) (x : COpd)
  | build (zero : List AV) (parts : List (Nat × Nat × COpd))
  | bslice (ty sz : Nat) (els : List (List AV)) (parts : List (Nat × COpd))
  | flst (ty sz : Nat) (els : List (List AV)) (parts : List (Nat × COpd))
  | load (ag : Bool) (sz : Nat) (a : COpd)
  | store (sz : Nat) (a x : COpd)
  | nilck (x : COpd)
  | bin (op : BinOp) (x y : COpd)
  | eqb (neq : Bool) (x y : COpd)
  | eqs (neq : Bool) (ks : List Nat) (x y : COpd)
  | eqn (neq : Bool) (kd : Nat) (x y : COpd)
  | un (op : UnOp) (x : COpd)
  | convI (k : IntKind) (x : COpd)
  | strid (x : COpd)
  | b2s (x : COpd)
  | mkfn (f : Nat) (caps : List COpd)
  | mkbnd (f : Nat) (x : COpd)
  | mks (ty sz bytes : Nat) (zero : List AV) (len cap : COpd)
  | slc (sz : Nat) (x : COpd) (lo hi mx : Option COpd)
  | slcs (x : COpd) (lo hi : Option COpd)
  | faddr (off : Nat) (x : COpd)
  | field (ag : Bool) (off sz : Nat) (x : COpd)
  | iaddr (sz : Nat) (x i : COpd)
  | iaddrA (esz len : Nat) (x i : COpd)
  | idx (x i : COpd)
  | idxA (ag : Bool) (esz len : Nat) (x i : COpd)
  | extract (x : COpd) (i : Nat)
  | call (f : COpd) (args : List COpd) (frz : Bool)
  | qcall (f : COpd) (args : List COpd)
  | len (isStr : Bool) (x : COpd)
  | app (ty sz bytes : Nat) (keep : Bool) (s x : COpd)
  | fapp (ty sz bytes : Nat) (s x : COpd)
  | copy (sz : Nat) (d s : COpd)
  | clear (sz : Nat) (zero : List AV) (x : COpd)
  | mm (isMax : Bool) (x : COpd) (xs : List COpd)
deriving Inhabited

structure COp where
  d : Option Nat
  o : CO
  g : Option (Nat × Bool) := none
  bf : List Nat := []
  alts : List Nat := []
deriving Inhabited

inductive CC where
  | skip
  | region (mask : List Nat) (ops : List COp)
  | draw (mask : List Nat) (ops : List COp)
  | seq (a b : CC)
  | cond (c : COpd) (a b : CC)
  | block (id : Nat) (body : CC)
  | loop (body : CC)
  | exit (id : Nat)
  | ret
  | scope (body : CC)
  | rfb (g t i j d : Nat) (body : CC)
  | user (p : List AV → Heap → Option (List AV × Heap))
  | stuck
deriving Inhabited

inductive CRes where
  | t (i : Nat)
  | cell (i : Nat) (ag : Bool) (sz : Nat)
deriving Inhabited

structure CFn where
  ntmps : Nat
  res : List CRes
  body : CC
  split : Bool := false
  closed : Bool := false
deriving Inhabited

/-! the evaluator -/

def get : Env → Nat → Option AV
  | [], _ => none
  | (j, v) :: T, i => if j = i then some v else get T i
def put (T : Env) (d : Option Nat) (v : AV) : Env :=
  match d with
  | some d => (d, v) :: T
  | none => T
def keepEnv (T : Env) : List Nat → Env
  | [] => []
  | i :: m => match get T i with
    | some v => (i, v) :: keepEnv T m
    | none => keepEnv T m
def evOpd (T : Env) : COpd → Option AV
  | .t i => get T i
  | .c a => some a
def evOpds (T : Env) : List COpd → Option (List AV)
  | [] => some []
  | x :: l => match evOpd T x, evOpds T l with
    | some v, some vs => some (v :: vs)
    | _, _ => none
def AV.cells : AV → List AV
  | .agg cs => cs
  | v => [v]
def AV.scal : AV → Bool
  | .agg _ => false
  | .tup _ => false
  | _ => true
/-- whole numbers, bools and strings -/
def AV.lit : AV → Bool
  | .int .. => true
  | .bool _ => true
  | .str _ => true
  | _ => false
/-- a call's arguments, with what the function value holds: captured values stand last; a method's receiver, marked by an empty tuple, first -/
def capArgs : List AV → List AV → List AV
  | [.tup [], .agg cs], vs => .agg cs :: vs
  | caps, vs => vs ++ caps
def AV.isTup : AV → Bool
  | .tup _ => true
  | _ => false
def spl (cs : List AV) (off : Nat) : List AV → List AV
  | [] => cs
  | x :: xs => spl (cs.set off x) (off + 1) xs
def asNat : AV → Option Nat
  | .int _ n => if 0 ≤ n then some n.toNat else none
  | _ => none

def evInt (op : BinOp) (k : IntKind) (a b : Int) : Option AV :=
  match op with
  | .add => some (.int k (k.wrap (a + b)))
  | .sub => some (.int k (k.wrap (a - b)))
  | .mul => some (.int k (k.wrap (a * b)))
  | .quo => if b = 0 then none else some (.int k (k.wrap (a.tdiv b)))
  | .rem => if b = 0 then none else some (.int k (a.tmod b))
  | .and => some (.int k (k.wrap (BitVec.ofInt k.bits a &&& BitVec.ofInt k.bits b).toNat))
  | .or => some (.int k (k.wrap (BitVec.ofInt k.bits a ||| BitVec.ofInt k.bits b).toNat))
  | .xor => some (.int k (k.wrap (BitVec.ofInt k.bits a ^^^ BitVec.ofInt k.bits b).toNat))
  | .andNot => some (.int k (k.wrap (BitVec.ofInt k.bits a &&& ~~~ (BitVec.ofInt k.bits b)).toNat))
  | .eql => some (.bool (decide (a = b)))
  | .neq => some (.bool (!decide (a = b)))
  | .lss => some (.bool (decide (a < b)))
  | .leq => some (.bool (decide (a ≤ b)))
  | .gtr => some (.bool (decide (b < a)))
  | .geq => some (.bool (decide (b ≤ a)))
  | .shl => none
  | .shr => none
def evStr (op : BinOp) (a b : ByteArray) : Option AV :=
  match op with
  | .add => if a.size + b.size ≤ 9223372036854775807 then some (.str (a ++ b)) else none
  | .eql => some (.bool (a.toList == b.toList))
  | .neq => some (.bool (!(a.toList == b.toList)))
  | .lss => some (.bool (Op.bytesLess a.toList b.toList))
  | .leq => some (.bool (Op.bytesLess a.toList b.toList || a.toList == b.toList))
  | .gtr => some (.bool (!(Op.bytesLess a.toList b.toList || a.toList == b.toList)))
  | .geq => some (.bool (!Op.bytesLess a.toList b.toList))
  | _ => none
def evBin (op : BinOp) : AV → AV → Option AV
  | .int k a, .int k' b =>
    match op with
    | .shl => if b < 0 then none else some (.int k (k.wrap (a * 2 ^ (min b.toNat k.bits))))
    | .shr => if b < 0 then none else some (.int k (a.fdiv (2 ^ (min b.toNat k.bits))))
    | op => if k = k' then evInt op k a b else none
  | .str a, .str b => evStr op a b
  | _, _ => none
/-- of whole numbers (0), bools (1), strings (2) -/
def cellEq : Nat → AV → AV → Option Bool
  | 0, .int k a, .int k' b => if k = k' then some (decide (a = b)) else none
  | 1, .bool a, .bool b => some (a == b)
  | 2, .str a, .str b => some (a.toList == b.toList)
  | _, _, _ => none
def cellsEq : List Nat → List AV → List AV → Option Bool
  | [], [], [] => some true
  | k :: ks, x :: l, y :: l' => match cellEq k x y, cellsEq ks l l' with
    | some a, some b => some (a && b)
    | _, _ => none
  | _, _, _ => none
/-- against nil, the second operand: pointers (0), slices (1), functions (2) -/
def nilEq : Nat → AV → AV → Option Bool
  | 0, .nilptr, .nilptr => some true
  | 0, .ptr .., .nilptr => some false
  | 0, .fptr _, .nilptr => some false
  | 1, .nils, .nils => some true
  | 1, .emp, .nils => some false
  | 1, .lst (_ :: _), .nils => some false
  | 1, .ref _ _ _ _ (_ + 1), .nils => some false
  | 2, .nilfn, .nilfn => some true
  | 2, .fn .., .nilfn => some false
  | _, _, _ => none
def evUn (op : UnOp) : AV → Option AV
  | .int k n => match op with
    | .neg => some (.int k (k.wrap (0 - n)))
    | _ => none
  | .bool b => match op with
    | .not => some (.bool !b)
    | _ => none
  | _ => none
def rowBytes : List (List AV) → Option (List UInt8)
  | [] => some []
  | [.int .u8 n] :: l => (rowBytes l).map (UInt8.ofNat n.toNat :: ·)
  | _ => none
def byteRows (s : ByteArray) : List (List AV) := s.data.toList.map fun b => [.int .u8 b.toNat]
def curBlk (H : Heap) (b v sz : Nat) : Option Blk :=
  match H[b]? with
  | some k => if k.live = true ∧ k.ver = v ∧ k.sz = sz then some k else none
  | none => none
/-- the rows of a slice -/
def rowsOf (H : Heap) : AV → Option (List (List AV))
  | .lst l => some l
  | .nils => some []
  | .emp => some []
  | .nil0 => some []
  | .ref _ _ _ _ 0 => some []
  | .ref b v sz off (len + 1) => (curBlk H b v sz).map fun k => (k.els.drop off).take (len + 1)
  | .cref b v sz off len => (curBlk H b v sz).map fun k => (k.els.drop off).take len
  | _ => none
def evLoad (ag : Bool) (sz : Nat) (H : Heap) : AV → Option AV
  | .ptr b v s i off => match curBlk H b v s with
    | some k => match k.els[i]? with
      | some cs => if ag = true then (if off + sz ≤ cs.length then some (.agg ((cs.drop off).take sz)) else none) else cs[off]?
      | none => none
    | none => none
  | .fptr cs => if ag = true then (if sz ≤ cs.length then some (.agg (cs.take sz)) else none) else cs[0]?
  | _ => none
def evStore (sz : Nat) (H : Heap) (x : AV) : AV → Option Heap
  | .ptr b v s i off => match curBlk H b v s with
    | some k => match k.els[i]? with
      | some cs => if x.cells.length = sz ∧ off + sz ≤ cs.length ∧ x.isTup = false then some (H.set b { k with els := k.els.set i (spl cs off x.cells) }) else none
      | none => none
    | none => none
  | _ => none
def headOk (sz : Nat) : List (List AV) → Bool
  | [] => true
  | r :: _ => decide (r.length = sz)
def evLen : AV → Option Nat
  | .lst l => some l.length
  | .nils => some 0
  | .emp => some 0
  | .nil0 => some 0
  | .ref _ _ _ _ n => some n
  | .cref _ _ _ _ n => some n
  | _ => none
def evSlcs (s : ByteArray) (lo hi : Option Nat) : Option AV :=
  if lo.getD 0 ≤ hi.getD s.size ∧ hi.getD s.size ≤ s.size then some (.str (s.extract (lo.getD 0) (hi.getD s.size))) else none
def evSlc (H : Heap) (sz : Nat) (x : AV) (lo hi mx : Option Nat) : Option AV :=
  match x with
  | .lst xs =>
    match mx with
    | none => if headOk sz xs = true ∧ lo.getD 0 ≤ hi.getD xs.length ∧ hi.getD xs.length ≤ xs.length then some (.lst ((xs.take (hi.getD xs.length)).drop (lo.getD 0))) else none
    | some m => if hi = some m ∧ lo.getD 0 = m ∧ m ≤ xs.length then some .nil0 else none
  | .ref b v s off len =>
    if s = sz then match mx with
    | none =>
      if lo.getD 0 ≤ hi.getD len ∧ hi.getD len ≤ len then some (.ref b v s (off + lo.getD 0) (hi.getD len - lo.getD 0))
      else if lo.getD 0 ≤ hi.getD len then match curBlk H b v s with
        | some k => if off + hi.getD len ≤ k.els.length ∧ (0 < len ∨ off = 0) then some (.ref b v s (off + lo.getD 0) (hi.getD len - lo.getD 0)) else none
        | none => none
      else none
    | some m => if hi = some m ∧ m ≤ len then (if lo.getD 0 < m then some (.cref b v s (off + lo.getD 0) (m - lo.getD 0)) else if lo.getD 0 = m then some .nil0 else none)
      else match hi, curBlk H b v s with
        | some h, some _ => if lo.getD 0 ≤ h ∧ h ≤ m ∧ m ≤ len then some (.ref b v (s + 1) 0 (h - lo.getD 0)) else none
        | _, _ => none
    else none
  | .cref b v s off len =>
    if s = sz then match mx with
    | none => if hi.getD len = len then (if lo.getD 0 < len then some (.cref b v s (off + lo.getD 0) (len - lo.getD 0)) else if lo.getD 0 = len then some .nil0 else none) else none
    | some m => if hi = some m ∧ m ≤ len then (if lo.getD 0 < m then some (.cref b v s (off + lo.getD 0) (m - lo.getD 0)) else if lo.getD 0 = m then some .nil0 else none) else none
    else none
  | .nils => if lo.getD 0 = 0 ∧ hi.getD 0 = 0 ∧ mx = none then some .nils else none
  | .emp => if lo.getD 0 = 0 ∧ hi.getD 0 = 0 ∧ mx = none then some .emp else none
  | .nil0 => if lo.getD 0 = 0 ∧ hi.getD 0 = 0 ∧ mx = none then some .nil0 else none
  | _ => none
def fillEls (sz : Nat) (T : Env) : List (List AV) → List (Nat × COpd) → Option (List (List AV))
  | els, [] => some els
  | els, (i, x) :: ps => match evOpd T x with
    | some v => if v.cells.length = sz ∧ i < els.length ∧ v.isTup = false then fillEls sz T (els.set i v.cells) ps else none
    | none => none
def fillParts (T : Env) : List AV → List (Nat × Nat × COpd) → Option (List AV)
  | cs, [] => some cs
  | cs, (off, size, x) :: ps => match evOpd T x with
    | some v => if v.cells.length = size ∧ off + size ≤ cs.length ∧ v.isTup = false then fillParts T (spl cs off v.cells) ps else none
    | none => none
def reach : Nat := 140737488355328
def evApp (ty sz bytes : Nat) (keep : Bool) (H : Heap) (s : AV) (src : List (List AV)) : Option (AV × Heap) :=
  if src.isEmpty = true then (if (evLen s).isSome = true then some (s, H) else none)
  else if headOk sz src = false then none else match s with
    | .nils => if src.length * bytes ≤ reach ∧ src.length ≤ reach then some (.ref H.length 0 sz 0 src.length, H ++ [⟨0, true, ty, sz, src⟩]) else none
    | .nil0 => if src.length * bytes ≤ reach ∧ src.length ≤ reach then some (.ref H.length 0 sz 0 src.length, H ++ [⟨0, true, ty, sz, src⟩]) else none
    | .cref b v sz' off len => match curBlk H b v sz' with
      | some k => if sz' = sz ∧ k.ty = ty ∧ (len + src.length) * bytes ≤ reach ∧ len + src.length ≤ reach then
          some (.ref H.length 0 sz 0 (len + src.length), H ++ [⟨0, true, ty, sz, (k.els.drop off).take len ++ src⟩]) else none
      | none => none
    | .ref b v sz' 0 len => match curBlk H b v sz' with
      | some k =>
        if sz' = sz ∧ k.ty = ty then
          (if keep = true ∧ len + src.length ≤ k.els.length then
            some (.ref b v sz 0 (len + src.length), H.set b { k with els := k.els.take len ++ src ++ k.els.drop (len + src.length) })
          else if (len + src.length) * bytes ≤ reach ∧ len + src.length ≤ reach then
            some (.ref b (v + 1) sz 0 (len + src.length), H.set b { k with ver := v + 1, els := k.els.take len ++ src })
          else none)
        else none
      | none => none
    | _ => none
def srcRows (H : Heap) : AV → Option (List (List AV))
  | .str s => some (byteRows s)
  | x => rowsOf H x
def evCopy (sz : Nat) (H : Heap) (d : AV) (src : List (List AV)) : Option (AV × Heap) :=
  match evLen d with
  | some dl =>
    if min src.length dl = 0 then some (.int .i64 0, H) else if headOk sz src = false then none else
    match d with
    | .ref b v sz' off _ => match curBlk H b v sz' with
      | some k => if sz' = sz then
          some (.int .i64 (min src.length dl : Nat), H.set b { k with els := k.els.take off ++ src.take (min src.length dl) ++ k.els.drop (off + min src.length dl) }) else none
      | none => none
    | _ => none
  | none => none
def evClear (sz : Nat) (zero : List AV) (H : Heap) (d : AV) : Option Heap :=
  match d with
  | .nils => some H
  | .emp => some H
  | .nil0 => some H
  | .ref _ _ _ _ 0 => some H
  | .ref b v sz' off (len + 1) => match curBlk H b v sz' with
    | some k => if sz' = sz then
        some (H.set b { k with els := k.els.take off ++ List.replicate (len + 1) zero ++ k.els.drop (off + (len + 1)) }) else none
    | none => none
  | _ => none
def evMM (isMax : Bool) : AV → List AV → Option AV
  | x, [] => some x
  | .int k a, .int k' b :: l => if k = k' then evMM isMax (.int k (if isMax = true then (if b > a then b else a) else (if b < a then b else a))) l else none
  | _, _ => none

def evNat (T : Env) : Option COpd → Option (Option Nat)
  | none => some none
  | some y => match evOpd T y with
    | some b => (asNat b).map some
    | none => none
def AV.flat : AV → Bool
  | .int _ _ => true
  | .bool _ => true
  | .str _ => true
  | _ => false
/-- a slice that is written nowhere, of cells that lead nowhere -/
def flstV : Option (List (List AV)) → Option AV
  | some [] => some .nil0
  | some (e :: es) => if (e :: es).all (fun r => r.all AV.flat) = true then some (.lst (e :: es)) else none
  | none => none
/-- a copy that is written nowhere, of cells that lead nowhere -/
def fappV (sz bytes : Nat) (s : AV) (src : List (List AV)) : Option AV :=
  match s with
  | .nil0 => if src.isEmpty = true then some (.lst []) else if headOk sz src = true ∧ src.length * bytes ≤ reach ∧ src.length ≤ reach ∧ src.all (fun r => r.all AV.flat) = true then some (.lst src) else none
  | _ => none
/-- the operations that read alone -/
def evPure (T : Env) (H : Heap) : CO → Option AV
  | .mv x => evOpd T x
  | .pick c a b => match evOpd T c with
    | some (.bool true) => evOpd T a
    | some (.bool false) => evOpd T b
    | _ => none
  | .build zero parts => (fillParts T zero parts).map .agg
  | .load ag sz a => match evOpd T a with
    | some p => evLoad ag sz H p
    | none => none
  | .nilck x => match evOpd T x with
    | some (.ptr b v s i o) => some (.ptr b v s i o)
    | some (.fptr cs) => some (.fptr cs)
    | some (.fn f c) => some (.fn f c)
    | _ => none
  | .bin op x y => match evOpd T x, evOpd T y with
    | some a, some b => evBin op a b
    | _, _ => none
  | .eqb neq x y => match evOpd T x, evOpd T y with
    | some (.bool a), some (.bool b) => some (.bool (if neq = true then !(a == b) else a == b))
    | _, _ => none
  | .eqs neq ks x y => match evOpd T x, evOpd T y with
    | some (.agg a), some (.agg b) => (cellsEq ks a b).map fun e => .bool (if neq = true then !e else e)
    | _, _ => none
  | .eqn neq kd x y => match evOpd T x, evOpd T y with
    | some a, some b => (nilEq kd a b).map fun e => .bool (if neq = true then !e else e)
    | _, _ => none
  | .un op x => match evOpd T x with
    | some a => evUn op a
    | none => none
  | .convI k x => match evOpd T x with
    | some (.int _ n) => some (.int k (k.wrap n))
    | _ => none
  | .strid x => match evOpd T x with
    | some (.str s) => some (.str s)
    | _ => none
  | .b2s x => match evOpd T x with
    | some a => match rowsOf H a with
      | some l => (rowBytes l).map fun bs => .str ⟨bs.toArray⟩
      | none => none
    | none => none
  | .mkfn f caps => match evOpds T caps with
    | some cs => if cs.all AV.scal = true then some (.fn f cs) else none
    | none => none
  | .mkbnd f x => match evOpd T x with
    | some (.agg cs) => if cs.all AV.lit = true then some (.fn f [.tup [], .agg cs]) else none
    | _ => none
  | .slc sz x lo hi mx => match evOpd T x, evNat T lo, evNat T hi, evNat T mx with
    | some a, some l, some h, some m => evSlc H sz a l h m
    | _, _, _, _ => none
  | .slcs x lo hi => match evOpd T x, evNat T lo, evNat T hi with
    | some (.str s), some l, some h => evSlcs s l h
    | _, _, _ => none
  | .faddr off x => match evOpd T x with
    | some (.ptr b v s i o) => some (.ptr b v s i (o + off))
    | some (.fptr cs) => some (.fptr (cs.drop off))
    | _ => none
  | .field ag off sz x => match evOpd T x with
    | some (.agg cs) => if ag = true then (if off + sz ≤ cs.length then some (.agg ((cs.drop off).take sz)) else none) else cs[off]?
    | _ => none
  | .iaddr sz x i => match evOpd T x, evOpd T i with
    | some (.lst l), some iv => match asNat iv with
      | some n => match l[n]? with
        | some row => if row.length = sz then some (.fptr row) else none
        | none => none
      | none => none
    | some (.ref b v s off len), some iv => match asNat iv with
      | some n => if n < len ∧ s = sz then some (.ptr b v s (off + n) 0) else none
      | none => none
    | some (.cref b v s off len), some iv => match asNat iv with
      | some n => if n < len ∧ s = sz then some (.ptr b v s (off + n) 0) else none
      | none => none
    | _, _ => none
  | .iaddrA esz len x i => match evOpd T x, evOpd T i with
    | some (.ptr b v s j o), some iv => match asNat iv with
      | some n => if n < len then some (.ptr b v s j (o + n * esz)) else none
      | none => none
    | some (.fptr cs), some iv => match asNat iv with
      | some n => if n < len then some (.fptr (cs.drop (n * esz))) else none
      | none => none
    | _, _ => none
  | .idx x i => match evOpd T x, evOpd T i with
    | some (.str s), some iv => match asNat iv with
      | some n => match s.data.toList[n]? with
        | some b => some (.int .u8 b.toNat)
        | none => none
      | none => none
    | _, _ => none
  | .idxA ag esz len x i => match evOpd T x, evOpd T i with
    | some (.agg cs), some iv => match asNat iv with
      | some n => if n < len then (if ag = true then (if n * esz + esz ≤ cs.length then some (.agg ((cs.drop (n * esz)).take esz)) else none) else cs[n * esz]?) else none
      | none => none
    | _, _ => none
  | .extract x i => match evOpd T x with
    | some (.tup vs) => vs[i]?
    | _ => none
  | .len isStr x => match evOpd T x with
    | some a => if isStr = true then (match a with
        | .str s => some (.int .i64 s.size)
        | _ => none) else (match evLen a with
        | some n => some (.int .i64 (n : Int))
        | none => none)
    | none => none
  | .mm isMax x xs => match evOpd T x, evOpds T xs with
    | some a, some l => evMM isMax a l
    | _, _ => none
  | .flst _ sz els parts => flstV (fillEls sz T els parts)
  | .fapp _ sz bytes s x => match evOpd T s, evOpd T x with
    | some s, some x => match srcRows H x with
      | some src => fappV sz bytes s src
      | none => none
    | _, _ => none
  | _ => none

/-! freezing, and what a call leaves behind -/

def fzCells (f : AV → Option (AV × List Nat)) : List AV → Option (List AV × List Nat)
  | [] => some ([], [])
  | x :: l => match f x, fzCells f l with
    | some (y, i), some (l', j) => some (y :: l', i ++ j)
    | _, _ => none
def fzRows (f : AV → Option (AV × List Nat)) : List (List AV) → Option (List (List AV) × List Nat)
  | [] => some ([], [])
  | x :: l => match fzCells f x, fzRows f l with
    | some (y, i), some (l', j) => some (y :: l', i ++ j)
    | _, _ => none
/-- a cell, frozen: what it is, and the blocks that are given up -/
def fz (H : Heap) : Nat → AV → Option (AV × List Nat)
  | 0, _ => none
  | n + 1, a => match a with
    | .ref _ _ _ _ 0 => some (.lst [], [])
    | .ref b v sz off (len + 1) => match curBlk H b v sz with
      | some k => match fzRows (fz H n) ((k.els.drop off).take (len + 1)) with
        | some (l, ids) => some (.lst l, b :: ids)
        | none => none
      | none => none
    | .cref b v sz off len => match curBlk H b v sz with
      | some k => match fzRows (fz H n) ((k.els.drop off).take len) with
        | some (l, ids) => some (.lst l, b :: ids)
        | none => none
      | none => none
    | .nils => some (.lst [], [])
    | .emp => some (.lst [], [])
    | .nil0 => some (.lst [], [])
    | .int k x => some (.int k x, [])
    | .bool x => some (.bool x, [])
    | .str x => some (.str x, [])
    | .lst l => some (.lst l, [])
    | .nilptr => some (.nilptr, [])
    | .nilfn => some (.nilfn, [])
    | _ => none
def fzDepth : Nat := 8
/-- one result: a cell or a struct -/
def fz1 (H : Heap) : AV → Option (AV × List Nat)
  | .agg cs => (fzCells (fz H fzDepth) cs).map fun p => (.agg p.1, p.2)
  | a => fz H fzDepth a
def fzRes (H : Heap) : AV → Option (AV × List Nat)
  | .tup vs => (fzCells (fz1 H) vs).map fun p => (.tup p.1, p.2)
  | a => fz1 H a
def kill (H : Heap) : List Nat → Heap
  | [] => H
  | b :: l => kill (match H[b]? with
    | some k => H.set b { k with ver := k.ver + 1, live := false, els := [] }
    | none => H) l
def noRef0 : AV → Bool
  | .ref .. => false
  | .cref .. => false
  | .ptr .. => false
  | .fn _ [] => true
  | .fn _ _ => false
  | .agg _ => false
  | .tup _ => false
  | _ => true
def noRef1 : AV → Bool
  | .agg cs => cs.all noRef0
  | a => noRef0 a
def noRef : AV → Bool
  | .tup vs => vs.all noRef1
  | a => noRef1 a
def gc (H : Heap) (r : AV) (H' : Heap) : Heap := if noRef r = true ∧ heq (H'.take H.length) H = true then H else H'

/-- what an operation does: its value, and the heap -/
def evOp (call : Nat → List AV → Heap → Option (AV × Heap)) (T : Env) (H : Heap) : CO → Option (AV × Heap)
  | .box ty sz x => match evOpd T x with
    | some v => if v.cells.length = sz ∧ v.isTup = false then some (.ptr H.length 0 sz 0 0, H ++ [⟨0, true, ty, sz, [v.cells]⟩]) else none
    | none => none
  | .bslice ty sz els parts => match fillEls sz T els parts with
    | some [] => some (.nil0, H)
    | some (e :: es) => some (.ref H.length 0 sz 0 (es.length + 1), H ++ [⟨0, true, ty, sz, e :: es⟩])
    | none => none
  | .store sz a x => match evOpd T a, evOpd T x with
    | some p, some v => (evStore sz H v p).map fun H' => (.tup [], H')
    | _, _ => none
  | .mks ty sz bytes zero len cap => match evOpd T len, evOpd T cap with
    | some l, some c => match asNat l, asNat c with
      | some l, some c => if l ≤ c ∧ c * bytes ≤ reach ∧ c ≤ reach ∧ zero.length = sz ∧ 0 < l then some (.ref H.length 0 sz 0 l, H ++ [⟨0, true, ty, sz, List.replicate l zero⟩]) else if l = 0 ∧ c = 0 then some (.nil0, H) else none
      | _, _ => none
    | _, _ => none
  | .call f args frz => match evOpd T f, evOpds T args with
    | some (.fn g caps), some vs => match call g (capArgs caps vs) H with
      | some (r, H1) =>
        if frz = true then (match fzRes H1 r with
          | some (r', ids) => some (r', gc H r' (kill H1 ids))
          | none => none)
        else some (r, gc H r H1)
      | none => none
    | _, _ => none
  | .qcall f args => match evOpd T f, evOpds T args with
    | some (.fn g caps), some vs => match call g (capArgs caps vs) H with
      | some (r, H1) => match fzRes H1 r with
        | some (r', ids) => if heq (gc H r' (kill H1 ids)) H = true then some (r', H) else none
        | none => none
      | none => none
    | _, _ => none
  | .app ty sz bytes keep s x => match evOpd T s, evOpd T x with
    | some s, some x => match srcRows H x with
      | some src => evApp ty sz bytes keep H s src
      | none => none
    | _, _ => none
  | .copy sz d s => match evOpd T d, evOpd T s with
    | some d, some s => match srcRows H s with
      | some src => evCopy sz H d src
      | none => none
    | _, _ => none
  | .clear sz zero x => match evOpd T x with
    | some x => if zero.length = sz then (evClear sz zero H x).map fun H' => (.tup [], H') else none
    | none => none
  | o => (evPure T H o).map fun v => (v, H)

def evGuard (T : Env) : Option (Nat × Bool) → Option Bool
  | none => some true
  | some (i, b) => match get T i with
    | some (.bool c) => some (c == b)
    | some (.tup []) => some false
    | _ => none

def evOps (call : Nat → List AV → Heap → Option (AV × Heap)) : List COp → Env → Heap → Option (Env × Heap)
  | [], T, H => some (T, H)
  | o :: os, T, H => match evGuard T o.g with
    | some true => match evOp call T H o.o with
      | some (v, H') => evOps call os (put T o.d v) H'
      | none => none
    | some false => evOps call os (put T o.d (.tup [])) H
    | none => none

/-- the same, with the heaps ahead of each operation (the last one first), and what is to be asked again -/
def evOpsD (call : Nat → List AV → Heap → Option (AV × Heap)) : List COp → Env → Heap → List Heap → List (COp × Env × AV) → Option (Env × Heap × List Heap × List (COp × Env × AV))
  | [], T, H, hs, as => some (T, H, hs ++ [H], as)
  | o :: os, T, H, hs, as => match evGuard T o.g with
    | some true => match evOp call T H o.o with
      | some (v, H') => evOpsD call os (put T o.d v) H' (hs ++ [H]) (if o.alts.isEmpty = true then as else as ++ [(o, T, v)])
      | none => none
    | some false => evOpsD call os (put T o.d (.tup [])) H (hs ++ [H]) as
    | none => none
def again (call : Nat → List AV → Heap → Option (AV × Heap)) (hs : List Heap) (a : COp × Env × AV) : Bool :=
  a.1.alts.all fun j => match hs[j]? with
    | some H => match evOp call a.2.1 H a.1.o with
      | some (v, _) => AV.beq v a.2.2
      | none => false
    | none => false
def evDraw (call : Nat → List AV → Heap → Option (AV × Heap)) (ops : List COp) (T : Env) (H : Heap) : Option (Env × Heap) :=
  match evOpsD call ops T H [] [] with
  | some (T', H', hs, as) => if as.all (again call hs) = true then some (T', H') else none
  | none => none

inductive CX where
  | normal
  | exit (id : Nat)
  | ret
deriving Inhabited, DecidableEq

abbrev St := Env × Heap

/-- the slots that hold a list, from a number on -/
def argEnv : Nat → List AV → Env
  | _, [] => []
  | i, a :: l => (i, a) :: argEnv (i + 1) l
/-- whole numbers, one a row -/
def intsOf : List (List AV) → Option (List Int)
  | [] => some []
  | [.int .i64 z] :: l => (intsOf l).map fun zs => z :: zs
  | _ => none
def intsAt (H : Heap) (p : AV) : Option (List Int) := match evLoad false 1 H p with
  | some .nils => some []
  | some (.lst rows) => if rows.length * 8 ≤ reach then intsOf rows else none
  | _ => none
/-- the rounds of a range over a function that hands out a list's numbers -/
def evRnd (body : St → Option (CX × St)) (T : Env) (i j d : Nat) (p : AV) (zs : List Int) : List (Int × Nat) → Heap → Option Heap
  | [], H => some H
  | (z, k) :: l, H => match body (put (put (put T (some i) (.int .i64 (k : Int))) (some j) (.int .i64 z)) (some d) (.int .i64 z), H) with
    | some (.normal, s) => if intsAt s.2 p = some zs then evRnd body T i j d p zs l s.2 else none
    | _ => none
def evRnds (body : St → Option (CX × St)) (g i j d : Nat) (T : Env) (H : Heap) : Option AV → Option (CX × St)
  | some (.fn h [p]) => if h = g then (match intsAt H p with
    | some zs => (evRnd body T i j d p zs zs.zipIdx.reverse H).map fun H' => (.normal, (T, H'))
    | none => none) else none
  | _ => none
def evCode (call : Nat → List AV → Heap → Option (AV × Heap)) (it : (St → Option (CX × St)) → St → Option (CX × St)) : CC → St → Option (CX × St)
  | .skip, s => some (.normal, s)
  | .region m ops, s => (evOps call ops (keepEnv s.1 m) s.2).map fun s' => (.normal, s')
  | .draw m ops, s => (evDraw call ops (keepEnv s.1 m) s.2).map fun s' => (.normal, s')
  | .seq a b, s => match evCode call it a s with
    | some (.normal, s') => evCode call it b s'
    | r => r
  | .cond c a b, s => match evOpd s.1 c with
    | some (.bool true) => evCode call it a s
    | some (.bool false) => evCode call it b s
    | _ => none
  | .block id a, s => match evCode call it a s with
    | some (.exit j, s') => if j = id then some (.normal, s') else some (.exit j, s')
    | r => r
  | .loop a, s => it (evCode call it a) s
  | .exit id, s => some (.exit id, s)
  | .ret, s => some (.ret, s)
  | .scope a, s => evCode call it a s
  | .rfb g t i j d a, s => evRnds (evCode call it a) g i j d s.1 s.2 (get s.1 t)
  | .user p, s => (p (s.1.map (·.2)) s.2).map fun r => (.ret, (argEnv 0 r.1, r.2))
  | .stuck, _ => none

def iter (body : St → Option (CX × St)) : Nat → St → Option (CX × St)
  | 0, _ => none
  | n + 1, s => match body s with
    | some (.normal, s') => iter body n s'
    | r => r

def evRes (T : Env) (H : Heap) : CRes → Option AV
  | .t i => match get T i with
    | some v => if v.isTup = true then none else some v
    | none => none
  | .cell i ag sz => match get T i with
    | some p => evLoad ag sz H p
    | none => none
def evRess (T : Env) (H : Heap) : List CRes → Option (List AV)
  | [] => some []
  | r :: l => match evRes T H r, evRess T H l with
    | some v, some vs => some (v :: vs)
    | _, _ => none
def packRes : List AV → AV
  | [v] => v
  | vs => .tup vs
def evBody (call : Nat → List AV → Heap → Option (AV × Heap)) (it : (St → Option (CX × St)) → St → Option (CX × St)) (c : CFn) (args : List AV) (H : Heap) : Option (AV × Heap) :=
  match evCode call it c.body (argEnv 0 args, H) with
  | some (.normal, T, H') => (evRess T H' c.res).map fun vs => (packRes vs, H')
  | some (.ret, T, H') => (evRess T H' c.res).map fun vs => (packRes vs, H')
  | _ => none
/-- a first argument that may be nil, or empty and not nil -/
def splitArg : List AV → Option (List AV)
  | .lst [] :: rest => some rest
  | .nil0 :: rest => some rest
  | _ => none
def evFn (call : Nat → List AV → Heap → Option (AV × Heap)) (it : (St → Option (CX × St)) → St → Option (CX × St)) (c : CFn) (args : List AV) (H : Heap) : Option (AV × Heap) :=
  if c.closed = true then
    match args with
    | [] => match evBody call it c [] [] with
      | some (.bool b, _) => some (.bool b, H)
      | _ => none
    | _ => none
  else if c.split = true then
    match splitArg args with
    | some rest =>
      match evBody call it c (.nils :: rest) H, evBody call it c (.emp :: rest) H with
      | some (.nils, H1), some (.nil0, H2) => if heq (H1.take H.length) H = true ∧ heq (H2.take H.length) H = true then some (.nil0, H) else none
      | _, _ => none
    | none => evBody call it c args H
  else evBody call it c args H

/-- with a bound on the depth of calls and on the rounds of each loop -/
def evCall (prog : Nat → Option CFn) : Nat → Nat → List AV → Heap → Option (AV × Heap)
  | 0, _, _, _ => none
  | k + 1, f, args, H => match prog f with
    | some c => evFn (evCall prog k) (fun body => iter body k) c args H
    | none => none
end Go.Proofs.YtbdpceigmnpoaaaGreatDoor.Ev
