/- Slices that grow by append; calls frozen. -/
import Derived.Test.YtbdpceigmnpoaaaGreatDoorEvW
set_option linter.unusedSimpArgs false
set_option linter.unusedVariables false
namespace Go.Proofs.YtbdpceigmnpoaaaGreatDoor.Ev

/-- what has been appended so far: nothing, or a block of its own in X, that lies behind n blocks -/
def Out (n sz ty : Nat) (X : Heap) (rv : AV) (rows : List (List AV)) : Prop :=
  (rows = [] ∧ (rv = .nils ∨ rv = .nil0)) ∨ (rows ≠ [] ∧ ∃ j v, rv = .ref (n + j) v sz 0 rows.length ∧ X[j]? = some ⟨v, true, ty, sz, rows⟩)
def oStep (n sz ty : Nat) (X : Heap) (rv : AV) (rows src : List (List AV)) : AV × Heap :=
  match rv with
  | .ref b v _ _ len => (.ref b (v + 1) sz 0 (len + src.length), X.set (b - n) ⟨v + 1, true, ty, sz, rows ++ src⟩)
  | _ => (.ref (n + X.length) 0 sz 0 src.length, X ++ [⟨0, true, ty, sz, src⟩])
theorem Out.nils (n sz ty : Nat) (X : Heap) : Out n sz ty X .nils [] := .inl ⟨rfl, .inl rfl⟩
theorem Out.more {n sz ty : Nat} {X : Heap} {rv : AV} {rows : List (List AV)} (h : Out n sz ty X rv rows) (Y : Heap) : Out n sz ty (X ++ Y) rv rows := by
  rcases h with h | ⟨h1, j, v, h2, h3⟩
  · exact .inl h
  · exact .inr ⟨h1, j, v, h2, by rw [List.getElem?_append_left (List.getElem?_eq_some_iff.1 h3).1]; exact h3⟩
theorem Out.step {n sz ty : Nat} {X : Heap} {rv : AV} {rows : List (List AV)} (h : Out n sz ty X rv rows) {src : List (List AV)} (hne : src ≠ []) :
    Out n sz ty (oStep n sz ty X rv rows src).2 (oStep n sz ty X rv rows src).1 (rows ++ src) := by
  rcases h with ⟨rfl, rfl | rfl⟩ | ⟨h1, j, v, rfl, h3⟩
  · exact .inr ⟨by simpa using hne, X.length, 0, rfl, by simp [oStep]⟩
  · exact .inr ⟨by simpa using hne, X.length, 0, rfl, by simp [oStep]⟩
  · refine .inr ⟨by simp [h1], j, v + 1, by simp [oStep], ?_⟩
    have := (List.getElem?_eq_some_iff.1 h3).1
    simp [oStep, this]
/-- the blocks of X that are not what grows stay -/
theorem oStep_keep {n sz ty : Nat} {X : Heap} {rv : AV} {rows src : List (List AV)} (h : Out n sz ty X rv rows) : X.length ≤ (oStep n sz ty X rv rows src).2.length := by
  rcases h with ⟨rfl, rfl | rfl⟩ | ⟨h1, j, v, rfl, h3⟩
  · simp [oStep]
  · simp [oStep]
  · simp [oStep]
def apO (bytes : Nat) (n sz ty : Nat) (H0 X : Heap) (rv : AV) (rows : List (List AV)) (src : Option (List (List AV))) : Option (AV × Heap) :=
  match src with
  | some (r :: rs) => if r.length = sz ∧ (rows.length + (rs.length + 1)) * bytes ≤ reach ∧ rows.length + (rs.length + 1) ≤ reach then some ((oStep n sz ty X rv rows (r :: rs)).1, H0 ++ (oStep n sz ty X rv rows (r :: rs)).2) else none
  | some [] => some (rv, H0 ++ X)
  | none => none
theorem apO_nil (bytes n sz ty : Nat) (H0 X : Heap) (rv : AV) (rows : List (List AV)) : apO bytes n sz ty H0 X rv rows (some []) = some (rv, H0 ++ X) := rfl
theorem apO_cons (bytes n sz ty : Nat) (H0 X : Heap) (rv : AV) (rows : List (List AV)) (r : List AV) (rs : List (List AV)) : apO bytes n sz ty H0 X rv rows (some (r :: rs)) =
    if r.length = sz ∧ (rows.length + (rs.length + 1)) * bytes ≤ reach ∧ rows.length + (rs.length + 1) ≤ reach then some ((oStep n sz ty X rv rows (r :: rs)).1, H0 ++ (oStep n sz ty X rv rows (r :: rs)).2) else none := rfl
theorem out_app {n sz ty : Nat} {X : Heap} {rv : AV} {rows : List (List AV)} (h : Out n sz ty X rv rows) (bytes : Nat) (H0 : Heap) (hn : n = H0.length) (a : AV) :
    appK ty sz bytes false (H0 ++ X) (some rv) (some a) = apO bytes n sz ty H0 X rv rows (srcRows (H0 ++ X) a) := by
  subst hn
  rcases h with ⟨rfl, rfl | rfl⟩ | ⟨h1, j, v, rfl, h3⟩
  · rw [app_nils]
    cases srcRows (H0 ++ X) a with
    | none => rfl
    | some src =>
      cases src with
      | nil => rfl
      | cons r rs => simp [apS, apN, apO, oStep]
  · rw [app_nil0']
    cases srcRows (H0 ++ X) a with
    | none => rfl
    | some src =>
      cases src with
      | nil => rfl
      | cons r rs => simp [apS, apN, apO, oStep]
  · rw [app_ref, at_app, h3]
    cases srcRows (H0 ++ X) a with
    | none => rfl
    | some src =>
      cases src with
      | nil => rfl
      | cons r rs => simp [apR_cons, apO, oStep, blkK_some, set_app]
theorem out_len {n sz ty : Nat} {X : Heap} {rv : AV} {rows : List (List AV)} (h : Out n sz ty X rv rows) : lenK false (some rv) = some (.int .i64 (rows.length : Int)) := by
  rcases h with ⟨rfl, rfl | rfl⟩ | ⟨h1, j, v, rfl, h3⟩ <;> rfl
theorem out_tup {n sz ty : Nat} {X : Heap} {rv : AV} {rows : List (List AV)} (h : Out n sz ty X rv rows) : rv.isTup = false := by
  rcases h with ⟨rfl, rfl | rfl⟩ | ⟨h1, j, v, rfl, h3⟩ <;> rfl
theorem out_slat {n sz ty : Nat} {X : Heap} {rv : AV} {rows : List (List AV)} (h : Out n sz ty X rv rows) (H0 : Heap) (hn : n = H0.length) (hsz : ∀ r ∈ rows, r.length = sz) : SlAt (H0 ++ X) sz rv rows := by
  subst hn
  rcases h with ⟨rfl, rfl | rfl⟩ | ⟨h1, j, v, rfl, h3⟩
  · exact ⟨rfl, fun i row hi => by simp at hi⟩
  · exact ⟨rfl, fun i row hi => by simp at hi⟩
  · exact .ref (k := ⟨v, true, ty, sz, rows⟩) (by simp [curBlk, at_app, h3]) fun i row hi => by
      rw [Nat.zero_add]
      exact ⟨hsz row (List.mem_of_getElem? hi), hi⟩

/-! arrays behind pointers, and numbers that stand in the code -/
def iaAK (b v s j o esz len : Nat) (n : Option Nat) : Option AV :=
  match n with
  | some n => if n < len then some (.ptr b v s j (o + n * esz)) else none
  | none => none
def iaAF (cs : List AV) (esz len : Nat) (n : Option Nat) : Option AV :=
  match n with
  | some n => if n < len then some (.fptr (cs.drop (n * esz))) else none
  | none => none
def iaddrAK (esz len : Nat) (x i : Option AV) : Option AV :=
  match x, i with
  | some (.ptr b v s j o), some iv => iaAK b v s j o esz len (asNat iv)
  | some (.fptr cs), some iv => iaAF cs esz len (asNat iv)
  | _, _ => none
theorem p_iaddrA {call : Nat → List AV → Heap → Option (AV × Heap)} (T : Env) (H : Heap) (esz len : Nat) (x i : COpd) : evOp call T H (.iaddrA esz len x i) = pureK H (iaddrAK esz len (evOpd T x) (evOpd T i)) := by
  rw [evOp_pureK rfl]
  congr 1
theorem iaddrA_ptr (esz len b v s j o : Nat) (iv : AV) : iaddrAK esz len (some (.ptr b v s j o)) (some iv) = iaAK b v s j o esz len (asNat iv) := rfl
theorem iaddrA_fptr (esz len : Nat) (cs : List AV) (iv : AV) : iaddrAK esz len (some (.fptr cs)) (some iv) = iaAF cs esz len (asNat iv) := rfl
theorem iaAK_some (b v s j o esz len n : Nat) : iaAK b v s j o esz len (some n) = if n < len then some (.ptr b v s j (o + n * esz)) else none := rfl
theorem iaAF_some (cs : List AV) (esz len n : Nat) : iaAF cs esz len (some n) = if n < len then some (.fptr (cs.drop (n * esz))) else none := rfl
theorem asNat_0 (k : IntKind) : asNat (.int k 0) = some 0 := rfl
theorem asNat_1 (k : IntKind) : asNat (.int k 1) = some 1 := rfl
theorem asNat_2 (k : IntKind) : asNat (.int k 2) = some 2 := rfl
theorem asNat_3 (k : IntKind) : asNat (.int k 3) = some 3 := rfl
section
variable {call : Nat → List AV → Heap → Option (AV × Heap)}
def mmK (b : Bool) (x : Option AV) (xs : Option (List AV)) : Option AV :=
  match x, xs with
  | some a, some l => evMM b a l
  | _, _ => none
theorem p_mm (T : Env) (H : Heap) (b : Bool) (x : COpd) (xs : List COpd) : evOp call T H (.mm b x xs) = pureK H (mmK b (evOpd T x) (evOpds T xs)) := evOp_pureK rfl
def flstK (els : Option (List (List AV))) : Option AV :=
  match els with
  | some [] => some .nil0
  | some (e :: es) => if (e :: es).all (fun r => r.all AV.flat) = true then some (.lst (e :: es)) else none
  | none => none
theorem p_flst (T : Env) (H : Heap) (ty sz : Nat) (els : List (List AV)) (ps : List (Nat × COpd)) : evOp call T H (.flst ty sz els ps) = pureK H (flstK (fillEls sz T els ps)) := evOp_pureK rfl
theorem flstK_nil : flstK (some []) = some .nil0 := rfl
theorem flstK_cons (e : List AV) (es : List (List AV)) : flstK (some (e :: es)) = if (e :: es).all (fun r => r.all AV.flat) = true then some (.lst (e :: es)) else none := rfl
def fappK (sz bytes : Nat) (H : Heap) (s x : Option AV) : Option AV :=
  match s, x with
  | some s, some x => match srcRows H x with
    | some src => fappV sz bytes s src
    | none => none
  | _, _ => none
theorem p_fapp (T : Env) (H : Heap) (ty sz bytes : Nat) (s x : COpd) : evOp call T H (.fapp ty sz bytes s x) = pureK H (fappK sz bytes H (evOpd T s) (evOpd T x)) := evOp_pureK rfl
theorem scal_ptr (b v s i o : Nat) : AV.scal (.ptr b v s i o) = true := rfl
theorem scal_fptr (cs : List AV) : AV.scal (.fptr cs) = true := rfl
theorem scal_ref (b v s i o : Nat) : AV.scal (.ref b v s i o) = true := rfl
theorem scal_lst (l : List (List AV)) : AV.scal (.lst l) = true := rfl
theorem flat_int (k : IntKind) (n : Int) : AV.flat (.int k n) = true := rfl
theorem flat_str (s : ByteArray) : AV.flat (.str s) = true := rfl
theorem flat_bool (b : Bool) : AV.flat (.bool b) = true := rfl
theorem mm_max (k : IntKind) (a b : Int) : mmK true (some (.int k a)) (some [.int k b]) = some (.int k (max a b)) := by
  simp only [mmK, evMM, if_true]
  congr 2
  split <;> omega
theorem mm_min (k : IntKind) (a b : Int) : mmK false (some (.int k a)) (some [.int k b]) = some (.int k (min a b)) := by
  simp only [mmK, evMM, if_true, Bool.false_eq_true, if_false]
  congr 2
  split <;> omega
def mksK (ty sz bytes : Nat) (zero : List AV) (H : Heap) (l c : Option AV) : Option (AV × Heap) :=
  match l, c with
  | some l, some c => match asNat l, asNat c with
    | some l, some c => if l ≤ c ∧ c * bytes ≤ reach ∧ c ≤ reach ∧ zero.length = sz ∧ 0 < l then some (.ref H.length 0 sz 0 l, H ++ [⟨0, true, ty, sz, List.replicate l zero⟩]) else if l = 0 ∧ c = 0 then some (.nil0, H) else none
    | _, _ => none
  | _, _ => none
theorem p_mks (T : Env) (H : Heap) (ty sz bytes : Nat) (zero : List AV) (l c : COpd) : evOp call T H (.mks ty sz bytes zero l c) = mksK ty sz bytes zero H (evOpd T l) (evOpd T c) := by
  simp only [evOp, mksK]; rfl
def b2sK (H : Heap) (x : Option AV) : Option AV :=
  match x with
  | some a => match rowsOf H a with
    | some l => (rowBytes l).map fun bs => .str ⟨bs.toArray⟩
    | none => none
  | none => none
theorem p_b2s (T : Env) (H : Heap) (x : COpd) : evOp call T H (.b2s x) = pureK H (b2sK H (evOpd T x)) := evOp_pureK rfl
def slcK (H : Heap) (sz : Nat) (x : Option AV) (lo hi mx : Option (Option Nat)) : Option AV :=
  match x, lo, hi, mx with
  | some a, some l, some h, some m => evSlc H sz a l h m
  | _, _, _, _ => none
theorem p_slc (T : Env) (H : Heap) (sz : Nat) (x : COpd) (lo hi mx : Option COpd) : evOp call T H (.slc sz x lo hi mx) = pureK H (slcK H sz (evOpd T x) (evNat T lo) (evNat T hi) (evNat T mx)) := evOp_pureK rfl
def natO (x : Option AV) : Option (Option Nat) :=
  match x with
  | some b => (asNat b).map some
  | none => none
theorem nat_none (T : Env) : evNat T none = some none := rfl
theorem nat_some (T : Env) (y : COpd) : evNat T (some y) = natO (evOpd T y) := rfl
theorem natO_some (b : AV) : natO (some b) = (asNat b).map some := rfl
theorem slcK_some (H : Heap) (sz : Nat) (a : AV) (l h m : Option Nat) : slcK H sz (some a) (some l) (some h) (some m) = evSlc H sz a l h m := rfl
def clrK (sz : Nat) (zero : List AV) (H : Heap) (x : Option AV) : Option (AV × Heap) :=
  match x with
  | some x => if zero.length = sz then (evClear sz zero H x).map fun H' => (.tup [], H') else none
  | none => none
theorem p_clear (T : Env) (H : Heap) (sz : Nat) (zero : List AV) (x : COpd) : evOp call T H (.clear sz zero x) = clrK sz zero H (evOpd T x) := by
  simp only [evOp, clrK]; rfl
theorem clrK_some (sz : Nat) (zero : List AV) (H : Heap) (x : AV) : clrK sz zero H (some x) = if zero.length = sz then (evClear sz zero H x).map fun H' => (.tup [], H') else none := rfl
end
section
variable {call : Nat → List AV → Heap → Option (AV × Heap)}
def guardE (call : Nat → List AV → Heap → Option (AV × Heap)) (o : COp) (os : List COp) (b : Bool) (T : Env) (H : Heap) (hs : List Heap) (as : List (COp × Env × AV)) (v : Option AV) : Option (Env × Heap × List Heap × List (COp × Env × AV)) :=
  match v with
  | some (.bool c) => if c = b then nextE call o os T H hs as (evOp call T H o.o) else evOpsD call os (put T o.d (.tup [])) H (hs ++ [H]) as
  | some (.tup []) => evOpsD call os (put T o.d (.tup [])) H (hs ++ [H]) as
  | _ => none
theorem d_galt (d : Option Nat) (o : CO) (i : Nat) (b : Bool) (bf : List Nat) (a : Nat) (al : List Nat) (os : List COp) (T : Env) (H : Heap) (hs : List Heap) (as : List (COp × Env × AV)) :
    evOpsD call (⟨d, o, some (i, b), bf, a :: al⟩ :: os) T H hs as = guardE call ⟨d, o, some (i, b), bf, a :: al⟩ os b T H hs as (get T i) := by
  simp only [evOpsD, evGuard]
  cases hg : get T i with
  | none => rfl
  | some v =>
    cases v with
    | bool c => cases c <;> cases b <;> rfl
    | tup l => cases l <;> rfl
    | _ => rfl
theorem guardE_tt (o : COp) (os : List COp) (T : Env) (H : Heap) (hs : List Heap) (as : List (COp × Env × AV)) : guardE call o os true T H hs as (some (.bool true)) = nextE call o os T H hs as (evOp call T H o.o) := rfl
theorem guardE_ff (o : COp) (os : List COp) (T : Env) (H : Heap) (hs : List Heap) (as : List (COp × Env × AV)) : guardE call o os false T H hs as (some (.bool false)) = nextE call o os T H hs as (evOp call T H o.o) := rfl
theorem guardE_tf (o : COp) (os : List COp) (T : Env) (H : Heap) (hs : List Heap) (as : List (COp × Env × AV)) : guardE call o os true T H hs as (some (.bool false)) = evOpsD call os (put T o.d (.tup [])) H (hs ++ [H]) as := rfl
theorem guardE_ft (o : COp) (os : List COp) (T : Env) (H : Heap) (hs : List Heap) (as : List (COp × Env × AV)) : guardE call o os false T H hs as (some (.bool true)) = evOpsD call os (put T o.d (.tup [])) H (hs ++ [H]) as := rfl
theorem guardE_tup (o : COp) (os : List COp) (b : Bool) (T : Env) (H : Heap) (hs : List Heap) (as : List (COp × Env × AV)) : guardE call o os b T H hs as (some (.tup [])) = evOpsD call os (put T o.d (.tup [])) H (hs ++ [H]) as := rfl
end
/- all rules of this text as one -/
set_option linter.defProp false in
def evX := (And.intro (And.intro (And.intro (And.intro (And.intro @p_mkbnd @mkbnd_some) (And.intro @lit_int (And.intro @p_fapp @scal_ptr))) (And.intro (And.intro @scal_fptr (And.intro @scal_ref @scal_lst)) (And.intro @p_flst (And.intro @flstK_nil @flstK_cons)))) (And.intro (And.intro (And.intro @flat_int (And.intro @flat_str @flat_bool)) (And.intro @d_galt (And.intro @guardE_tt @guardE_ff))) (And.intro (And.intro @guardE_tf (And.intro @guardE_ft @guardE_tup)) (And.intro @p_mm (And.intro @mm_max @mm_min))))) (And.intro (And.intro (And.intro (And.intro @p_mks @p_b2s) (And.intro @p_slc (And.intro @nat_none @nat_some))) (And.intro (And.intro @natO_some (And.intro @slcK_some @p_clear)) (And.intro @clrK_some (And.intro @p_iaddrA @iaddrA_ptr)))) (And.intro (And.intro (And.intro @iaddrA_fptr (And.intro @iaAK_some @iaAF_some)) (And.intro @asNat_0 (And.intro @asNat_1 @asNat_2))) (And.intro (And.intro @asNat_3 (And.intro @Nat.zero_mul @Nat.one_mul)) (And.intro @Nat.mul_one (And.intro @apO_cons @apO_nil))))))

/-! freezing -/
theorem fz_noRef0 {a : AV} (h : noRef0 a = true) (H H' : Heap) : ∀ n, fz H n a = fz H' n a ∧ ∀ r, fz H n a = some r → r.2 = []
  | 0 => ⟨rfl, fun r h => by cases h⟩
  | n + 1 => by
    cases a <;> first | (simp [noRef0] at h; done) | exact ⟨rfl, fun r h => by first | (cases h; rfl) | (simp [fz] at h)⟩
theorem fz_cells {f g : AV → Option (AV × List Nat)} : ∀ (l : List AV), (∀ a ∈ l, f a = g a ∧ ∀ r, f a = some r → r.2 = []) → fzCells f l = fzCells g l ∧ ∀ r, fzCells f l = some r → r.2 = []
  | [], _ => ⟨rfl, fun r h => by cases h; rfl⟩
  | a :: l, h => by
    obtain ⟨h1, h2⟩ := h a (List.mem_cons_self ..)
    obtain ⟨h3, h4⟩ := fz_cells l fun b hb => h b (List.mem_cons_of_mem _ hb)
    refine ⟨by simp only [fzCells, h1, h3], fun r hr => ?_⟩
    simp only [fzCells] at hr
    cases ha : f a with
    | none => simp [ha] at hr
    | some p =>
      cases hl : fzCells f l with
      | none => simp [ha, hl] at hr
      | some q =>
        simp only [ha, hl, Option.some.injEq] at hr
        subst hr
        simp [h2 p ha, h4 q hl]
theorem fz1_noRef {a : AV} (h : noRef1 a = true) (H H' : Heap) : fz1 H a = fz1 H' a ∧ ∀ r, fz1 H a = some r → r.2 = [] := by
  by_cases hag : ∃ cs, a = .agg cs
  · obtain ⟨cs, rfl⟩ := hag
    obtain ⟨h1, h2⟩ := fz_cells (f := fz H fzDepth) (g := fz H' fzDepth) cs fun a ha => fz_noRef0 (List.all_eq_true.1 h a ha) H H' fzDepth
    refine ⟨by simp only [fz1, h1], fun r hr => ?_⟩
    simp only [fz1] at hr
    cases hc : fzCells (fz H fzDepth) cs with
    | none => simp [hc] at hr
    | some q =>
      simp only [hc, Option.map_some, Option.some.injEq] at hr
      subst hr
      exact h2 q hc
  · have key : noRef1 a = noRef0 a ∧ ∀ H, fz1 H a = fz H fzDepth a := by
      cases a <;> first | exact absurd ⟨_, rfl⟩ hag | exact ⟨rfl, fun _ => rfl⟩
    rw [key.1] at h
    rw [key.2, key.2]
    exact fz_noRef0 h H H' fzDepth
theorem fzRes_noRef {a : AV} (h : noRef a = true) (H H' : Heap) : fzRes H a = fzRes H' a ∧ ∀ r, fzRes H a = some r → r.2 = [] := by
  by_cases htu : ∃ vs, a = .tup vs
  · obtain ⟨vs, rfl⟩ := htu
    obtain ⟨h1, h2⟩ := fz_cells (f := fz1 H) (g := fz1 H') vs fun a ha => fz1_noRef (List.all_eq_true.1 h a ha) H H'
    refine ⟨by simp only [fzRes, h1], fun r hr => ?_⟩
    simp only [fzRes] at hr
    cases hc : fzCells (fz1 H) vs with
    | none => simp [hc] at hr
    | some q =>
      simp only [hc, Option.map_some, Option.some.injEq] at hr
      subst hr
      exact h2 q hc
  · have key : noRef a = noRef1 a ∧ ∀ H, fzRes H a = fz1 H a := by
      cases a <;> first | exact absurd ⟨_, rfl⟩ htu | exact ⟨rfl, fun _ => rfl⟩
    rw [key.1] at h
    rw [key.2, key.2]
    exact fz1_noRef h H H'
theorem kill_keep (n : Nat) : ∀ (ids : List Nat) (H : Heap), (∀ b ∈ ids, n ≤ b) → (kill H ids).take n = H.take n
  | [], H, _ => rfl
  | b :: ids, H, h => by
    rw [kill, kill_keep n ids _ fun c hc => h c (List.mem_cons_of_mem _ hc)]
    have hb := h b (List.mem_cons_self ..)
    split
    · rw [List.take_set_of_le hb]
    · rfl
/-- a call, frozen, out of the call as it is -/
theorem cal_frz {call : Nat → List AV → Heap → Option (AV × Heap)} {g : Nat} {vs : List AV} {H H' : Heap} {r r' : AV} {ids : List Nat} (h : cal call false g vs H = some (r, H')) (hf : fzRes H' r = some (r', ids)) (hn : noRef r' = true)
    (ht : H'.take H.length = H) (hi : ∀ b ∈ ids, H.length ≤ b) : cal call true g vs H = some (r', H) := by
  unfold cal at h ⊢
  cases hc : call g vs H with
  | none => simp [hc] at h
  | some p =>
    obtain ⟨r0, H1⟩ := p
    simp only [hc, Bool.false_eq_true, if_false, Option.some.injEq, Prod.mk.injEq] at h
    obtain ⟨rfl, h⟩ := h
    simp only [if_true]
    unfold gc at h
    split at h
    · rename_i hg
      subst h
      obtain ⟨e1, e2⟩ := fzRes_noRef hg.1 H1 H
      rw [e1, hf]
      have := e2 (r', ids) (by rw [e1, hf])
      simp only at this
      subst this
      simp only [kill]
      unfold gc
      rw [if_pos ⟨hn, hg.2⟩]
    · subst h
      rw [hf]
      simp only
      unfold gc
      rw [if_pos ⟨hn, by rw [kill_keep _ _ _ hi, ht]; exact heq_refl H⟩]
theorem calK_frz {H H1 : Heap} {r r' : AV} {ids : List Nat} (hf : fzRes H1 r = some (r', ids)) (hn : noRef r' = true) (ht : H1.take H.length = H) (hi : ∀ b ∈ ids, H.length ≤ b) : calK true H (some (r, H1)) = some (r', H) := by
  unfold calK
  simp only [if_true, hf]
  unfold gc
  rw [if_pos ⟨hn, by rw [kill_keep _ _ _ hi, ht]; exact heq_refl H⟩]
theorem fz_out {n sz ty : Nat} {X : Heap} {rv : AV} {rows : List (List AV)} (h : Out n sz ty X rv rows) (H0 : Heap) (hn : n = H0.length) (hr : ∀ r ∈ rows, ∀ a ∈ r, noRef0 a = true ∧ ∀ m H, fz H (m + 1) a = some (a, [])) (m : Nat) :
    ∃ ids, fz (H0 ++ X) (m + 2) rv = some (.lst rows, ids) ∧ ∀ b ∈ ids, n ≤ b := by
  subst hn
  have hc : ∀ (r : List AV), (∀ a ∈ r, ∀ m H, fz H (m + 1) a = some (a, [])) → fzCells (fz (H0 ++ X) (m + 1)) r = some (r, [])
    | [], _ => rfl
    | a :: r, h => by
      have ih : ∀ (r : List AV), (∀ a ∈ r, ∀ m H, fz H (m + 1) a = some (a, [])) → fzCells (fz (H0 ++ X) (m + 1)) r = some (r, []) := by
        intro r
        induction r with
        | nil => intro _; rfl
        | cons a r ih => intro h; simp only [fzCells, h a (List.mem_cons_self ..), ih fun b hb => h b (List.mem_cons_of_mem _ hb), List.append_nil]
      exact ih (a :: r) h
  have hrows : ∀ (l : List (List AV)), (∀ r ∈ l, ∀ a ∈ r, ∀ m H, fz H (m + 1) a = some (a, [])) → fzRows (fz (H0 ++ X) (m + 1)) l = some (l, []) := by
    intro l
    induction l with
    | nil => intro _; rfl
    | cons r l ih => intro h; simp only [fzRows, hc r (h r (List.mem_cons_self ..)), ih fun b hb => h b (List.mem_cons_of_mem _ hb), List.append_nil]
  rcases h with ⟨rfl, rfl | rfl⟩ | ⟨h1, j, v, rfl, h3⟩
  · exact ⟨[], rfl, by simp⟩
  · exact ⟨[], rfl, by simp⟩
  · obtain ⟨k, hk⟩ : ∃ k, rows.length = k + 1 := ⟨rows.length - 1, by have := List.length_pos_iff.2 h1; omega⟩
    refine ⟨[H0.length + j], ?_, by simp⟩
    have hb : curBlk (H0 ++ X) (H0.length + j) v sz = some ⟨v, true, ty, sz, rows⟩ := by simp [curBlk, at_app, h3]
    rw [hk]
    show (match curBlk (H0 ++ X) (H0.length + j) v sz with
      | some k' => match fzRows (fz (H0 ++ X) (m + 1)) ((k'.els.drop 0).take (k + 1)) with
        | some (l, ids) => some (AV.lst l, (H0.length + j) :: ids)
        | none => none
      | none => none) = _
    simp only [hb, List.drop_zero, List.take_of_length_le (Nat.le_of_eq hk), hrows rows fun r hr' a ha => (hr r hr' a ha).2]
end Go.Proofs.YtbdpceigmnpoaaaGreatDoor.Ev
