/- Regions that draw, with reads that are asked again; slices.Clone. -/
import Derived.Test.YtbdpceigmnpoaaaGreatDoorEvV
set_option linter.unusedSimpArgs false
set_option linter.unusedVariables false
namespace Go.Proofs.YtbdpceigmnpoaaaGreatDoor.Ev

section
variable {call : Nat → List AV → Heap → Option (AV × Heap)} {it : (St → Option (CX × St)) → St → Option (CX × St)}
theorem plainD_alt (d : Option Nat) (o : CO) (g : Option (Nat × Bool)) (bf : List Nat) (a : Nat) (al : List Nat) (os : List COp) : plainD (⟨d, o, g, bf, a :: al⟩ :: os) = false := rfl
theorem drawK_false (a b : Option (CX × St)) : drawK false a b = b := rfl
def dK (call : Nat → List AV → Heap → Option (AV × Heap)) (r : Option (Env × Heap × List Heap × List (COp × Env × AV))) : Option (Env × Heap) :=
  match r with
  | some (T', H', hs, as) => if as.all (again call hs) = true then some (T', H') else none
  | none => none
theorem d_eq (ops : List COp) (T : Env) (H : Heap) : evDraw call ops T H = dK call (evOpsD call ops T H [] []) := rfl
theorem d_nil (T : Env) (H : Heap) (hs : List Heap) (as : List (COp × Env × AV)) : evOpsD call [] T H hs as = some (T, H, hs ++ [H], as) := rfl
def nextD (call : Nat → List AV → Heap → Option (AV × Heap)) (d : Option Nat) (os : List COp) (T : Env) (H : Heap) (hs : List Heap) (as : List (COp × Env × AV)) (r : Option (AV × Heap)) : Option (Env × Heap × List Heap × List (COp × Env × AV)) :=
  match r with
  | some (v, H') => evOpsD call os (put T d v) H' (hs ++ [H]) as
  | none => none
def nextE (call : Nat → List AV → Heap → Option (AV × Heap)) (o : COp) (os : List COp) (T : Env) (H : Heap) (hs : List Heap) (as : List (COp × Env × AV)) (r : Option (AV × Heap)) : Option (Env × Heap × List Heap × List (COp × Env × AV)) :=
  match r with
  | some (v, H') => evOpsD call os (put T o.d v) H' (hs ++ [H]) (as ++ [(o, T, v)])
  | none => none
theorem d_cons (d : Option Nat) (o : CO) (bf : List Nat) (os : List COp) (T : Env) (H : Heap) (hs : List Heap) (as : List (COp × Env × AV)) :
    evOpsD call (⟨d, o, none, bf, []⟩ :: os) T H hs as = nextD call d os T H hs as (evOp call T H o) := by
  simp only [evOpsD, evGuard]; rfl
theorem d_alt (d : Option Nat) (o : CO) (bf : List Nat) (a : Nat) (al : List Nat) (os : List COp) (T : Env) (H : Heap) (hs : List Heap) (as : List (COp × Env × AV)) :
    evOpsD call (⟨d, o, none, bf, a :: al⟩ :: os) T H hs as = nextE call ⟨d, o, none, bf, a :: al⟩ os T H hs as (evOp call T H o) := by
  simp only [evOpsD, evGuard]; rfl
theorem nextD_some (d : Option Nat) (os : List COp) (T : Env) (H : Heap) (hs : List Heap) (as : List (COp × Env × AV)) (v : AV) (H' : Heap) :
    nextD call d os T H hs as (some (v, H')) = evOpsD call os (put T d v) H' (hs ++ [H]) as := rfl
theorem nextE_some (o : COp) (os : List COp) (T : Env) (H : Heap) (hs : List Heap) (as : List (COp × Env × AV)) (v : AV) (H' : Heap) :
    nextE call o os T H hs as (some (v, H')) = evOpsD call os (put T o.d v) H' (hs ++ [H]) (as ++ [(o, T, v)]) := rfl
def guardD (call : Nat → List AV → Heap → Option (AV × Heap)) (d : Option Nat) (o : CO) (os : List COp) (b : Bool) (T : Env) (H : Heap) (hs : List Heap) (as : List (COp × Env × AV)) (v : Option AV) : Option (Env × Heap × List Heap × List (COp × Env × AV)) :=
  match v with
  | some (.bool c) => if c = b then nextD call d os T H hs as (evOp call T H o) else evOpsD call os (put T d (.tup [])) H (hs ++ [H]) as
  | some (.tup []) => evOpsD call os (put T d (.tup [])) H (hs ++ [H]) as
  | _ => none
theorem d_guard (d : Option Nat) (o : CO) (i : Nat) (b : Bool) (bf : List Nat) (os : List COp) (T : Env) (H : Heap) (hs : List Heap) (as : List (COp × Env × AV)) :
    evOpsD call (⟨d, o, some (i, b), bf, []⟩ :: os) T H hs as = guardD call d o os b T H hs as (get T i) := by
  simp only [evOpsD, evGuard]
  cases hg : get T i with
  | none => rfl
  | some v =>
    cases v with
    | bool c => cases c <;> cases b <;> rfl
    | tup l => cases l <;> rfl
    | _ => rfl
theorem guardD_tt (d : Option Nat) (o : CO) (os : List COp) (T : Env) (H : Heap) (hs : List Heap) (as : List (COp × Env × AV)) : guardD call d o os true T H hs as (some (.bool true)) = nextD call d os T H hs as (evOp call T H o) := rfl
theorem guardD_ff (d : Option Nat) (o : CO) (os : List COp) (T : Env) (H : Heap) (hs : List Heap) (as : List (COp × Env × AV)) : guardD call d o os false T H hs as (some (.bool false)) = nextD call d os T H hs as (evOp call T H o) := rfl
theorem guardD_tf (d : Option Nat) (o : CO) (os : List COp) (T : Env) (H : Heap) (hs : List Heap) (as : List (COp × Env × AV)) : guardD call d o os true T H hs as (some (.bool false)) = evOpsD call os (put T d (.tup [])) H (hs ++ [H]) as := rfl
theorem guardD_ft (d : Option Nat) (o : CO) (os : List COp) (T : Env) (H : Heap) (hs : List Heap) (as : List (COp × Env × AV)) : guardD call d o os false T H hs as (some (.bool true)) = evOpsD call os (put T d (.tup [])) H (hs ++ [H]) as := rfl
theorem guardD_tup (d : Option Nat) (o : CO) (os : List COp) (b : Bool) (T : Env) (H : Heap) (hs : List Heap) (as : List (COp × Env × AV)) : guardD call d o os b T H hs as (some (.tup [])) = evOpsD call os (put T d (.tup [])) H (hs ++ [H]) as := rfl
theorem guardD_cases (d : Option Nat) (o : CO) (os : List COp) (b : Bool) (T : Env) (H : Heap) (hs : List Heap) (as : List (COp × Env × AV)) (c : Bool) :
    guardD call d o os b T H hs as (some (.bool c)) = if c = true then guardD call d o os b T H hs as (some (.bool true)) else guardD call d o os b T H hs as (some (.bool false)) := by cases c <;> rfl
theorem dK_some (T : Env) (H : Heap) (hs : List Heap) (as : List (COp × Env × AV)) : dK call (some (T, H, hs, as)) = if as.all (again call hs) = true then some (T, H) else none := rfl
def beqO (r : Option (AV × Heap)) (v : AV) : Bool :=
  match r with
  | some (v', _) => AV.beq v' v
  | none => false
def agK (call : Nat → List AV → Heap → Option (AV × Heap)) (H : Option Heap) (T : Env) (v : AV) (o : CO) : Bool :=
  match H with
  | some H => beqO (evOp call T H o) v
  | none => false
def allA (call : Nat → List AV → Heap → Option (AV × Heap)) (hs : List Heap) (T : Env) (v : AV) (o : CO) : List Nat → Bool
  | [] => true
  | j :: js => agK call hs[j]? T v o && allA call hs T v o js
theorem again_eq (hs : List Heap) (d : Option Nat) (o : CO) (g : Option (Nat × Bool)) (bf al : List Nat) (T : Env) (v : AV) : again call hs (⟨d, o, g, bf, al⟩, T, v) = allA call hs T v o al := by
  unfold again
  simp only
  induction al with
  | nil => rfl
  | cons j js ih =>
    rw [List.all_cons, ih]
    rfl
theorem allA_nil (hs : List Heap) (T : Env) (v : AV) (o : CO) : allA call hs T v o [] = true := rfl
theorem allA_cons (hs : List Heap) (T : Env) (v : AV) (o : CO) (j : Nat) (js : List Nat) : allA call hs T v o (j :: js) = (agK call hs[j]? T v o && allA call hs T v o js) := rfl
theorem agK_some (H : Heap) (T : Env) (v : AV) (o : CO) : agK call (some H) T v o = beqO (evOp call T H o) v := rfl
theorem beqO_same (v : AV) (H : Heap) : beqO (some (v, H)) v = true := AV.beq_refl v
theorem fn_split {n : Nat} {res : List CRes} {body : CC} (r : List AV) (rs : List (List AV)) (rest : List AV) (H : Heap) :
    evFn call it ⟨n, res, body, true, false⟩ (.lst (r :: rs) :: rest) H = bodyK res (evCode call it body (argEnv 0 (.lst (r :: rs) :: rest), H)) := rfl
theorem fn_split_ref {n : Nat} {res : List CRes} {body : CC} (b v s o k : Nat) (rest : List AV) (H : Heap) :
    evFn call it ⟨n, res, body, true, false⟩ (.ref b v s o k :: rest) H = bodyK res (evCode call it body (argEnv 0 (.ref b v s o k :: rest), H)) := rfl
end

def cClone (ty sz bytes : Nat) : CFn := ⟨8, [.t 2],
 (.seq
  (.region [0] [⟨(some 2), .mv (.c (.nils)), none, [], []⟩])
  (.seq
   (.seq
    (.region [0] [⟨(some 3), .mv (.t 0), none, [], []⟩,
      ⟨(some 4), .eqn false 1 (.t 3) (.c (.nils)), none, [], []⟩])
    (.cond (.t 4)
     (.seq
      (.region [] [⟨(some 2), .mv (.c (.nils)), none, [], []⟩])
      .ret)
     .skip))
   (.seq
    (.region [0] [⟨(some 5), .bslice ty sz [] [], none, [], []⟩,
      ⟨(some 6), .mv (.t 0), none, [], []⟩,
      ⟨(some 7), .app ty sz bytes false (.t 5) (.t 6), none, [], []⟩,
      ⟨(some 2), .mv (.t 7), none, [], []⟩])
    .ret))), true, false⟩
theorem gc_no (H : Heap) (r : AV) (H1 : Heap) (h : noRef r = false) : gc H r H1 = H1 := by
  unfold gc; rw [if_neg (by simp [h])]
theorem app_nil0 {ty sz bytes : Nat} {H : Heap} {a : AV} {src : List (List AV)} (hs : srcRows H a = some src) (hne : src ≠ []) (hh : headOk sz src = true) (hb : src.length * bytes ≤ reach ∧ src.length ≤ reach) :
    appK ty sz bytes false H (some .nil0) (some a) = some (.ref H.length 0 sz 0 src.length, H ++ [⟨0, true, ty, sz, src⟩]) := by
  have he : src.isEmpty = false := by cases src <;> simp_all
  simp only [appK, hs, evApp, he, hh, Bool.false_eq_true, if_false, Bool.true_eq_false]
  rw [if_pos hb]
theorem clone_lst {cprog : Nat → Option CFn} {f ty sz bytes : Nat} (hat : cprog f = some (cClone ty sz bytes)) (r : List AV) (rs : List (List AV)) (H : Heap) (hh : r.length = sz) (hb : (r :: rs).length * bytes ≤ reach ∧ (r :: rs).length ≤ reach) :
    cal (evC cprog) false f [.lst (r :: rs)] H = some (.ref H.length 0 sz 0 (rs.length + 1), H ++ [⟨0, true, ty, sz, r :: rs⟩]) := by
  rw [cal_of hat]
  have ha := app_nil0 (ty := ty) (sz := sz) (bytes := bytes) (H := H) (a := .lst (r :: rs)) (src := r :: rs) rfl (by simp) (by simp [headOk, hh]) hb
  have he : eqnK false 1 (some (.lst (r :: rs))) (some .nils) = some (.bool false) := rfl
  simp only [cClone, fn_split, he, ha, p_eqn, evR, Nat.reduceAdd, Nat.reduceLT, Nat.reduceLeDiff, reduceIte, Nat.reduceEqDiff, reduceCtorEq, argEnv, eq_self, if_true, if_false]
theorem clone_nil {cprog : Nat → Option CFn} {f ty sz bytes : Nat} (hat : cprog f = some (cClone ty sz bytes)) (H : Heap) : cal (evC cprog) false f [.lst []] H = some (.nil0, H) := by
  rw [cal_of hat]
  have e1 : evBody (evC cprog) itLim (cClone ty sz bytes) [.nils] H = some (.nils, H) := by
    have he : eqnK false 1 (some .nils) (some .nils) = some (.bool true) := rfl
    simp only [cClone, body_eq, he, evR, Nat.reduceAdd, Nat.reduceLT, Nat.reduceLeDiff, reduceIte, Nat.reduceEqDiff, reduceCtorEq, argEnv, eq_self, if_true, if_false]
  have e2 : evBody (evC cprog) itLim (cClone ty sz bytes) [.emp] H = some (.nil0, H) := by
    have he : eqnK false 1 (some .emp) (some .nils) = some (.bool false) := rfl
    have ha : appK ty sz bytes false H (some .nil0) (some .emp) = some (.nil0, H) := rfl
    simp only [cClone, body_eq, he, ha, evR, Nat.reduceAdd, Nat.reduceLT, Nat.reduceLeDiff, reduceIte, Nat.reduceEqDiff, reduceCtorEq, argEnv, eq_self, if_true, if_false]
  have : evFn (evC cprog) itLim (cClone ty sz bytes) [.lst []] H = some (.nil0, H) := by
    unfold evFn
    rw [if_neg (show ¬ (cClone ty sz bytes).closed = true from fun h => by cases h), if_pos (show (cClone ty sz bytes).split = true from rfl)]
    simp only [splitArg, e1, e2]
    rw [if_pos ⟨by rw [List.take_length]; exact heq_refl H, by rw [List.take_length]; exact heq_refl H⟩]
  rw [this, calK_f, gc_same]
theorem clone_nil0 {cprog : Nat → Option CFn} {f ty sz bytes : Nat} (hat : cprog f = some (cClone ty sz bytes)) (H : Heap) : cal (evC cprog) false f [.nil0] H = some (.nil0, H) := by
  rw [cal_of hat]
  have e1 : evBody (evC cprog) itLim (cClone ty sz bytes) [.nils] H = some (.nils, H) := by
    have he : eqnK false 1 (some .nils) (some .nils) = some (.bool true) := rfl
    simp only [cClone, body_eq, he, evR, Nat.reduceAdd, Nat.reduceLT, Nat.reduceLeDiff, reduceIte, Nat.reduceEqDiff, reduceCtorEq, argEnv, eq_self, if_true, if_false]
  have e2 : evBody (evC cprog) itLim (cClone ty sz bytes) [.emp] H = some (.nil0, H) := by
    have he : eqnK false 1 (some .emp) (some .nils) = some (.bool false) := rfl
    have ha : appK ty sz bytes false H (some .nil0) (some .emp) = some (.nil0, H) := rfl
    simp only [cClone, body_eq, he, ha, evR, Nat.reduceAdd, Nat.reduceLT, Nat.reduceLeDiff, reduceIte, Nat.reduceEqDiff, reduceCtorEq, argEnv, eq_self, if_true, if_false]
  have : evFn (evC cprog) itLim (cClone ty sz bytes) [.nil0] H = some (.nil0, H) := by
    unfold evFn
    rw [if_neg (show ¬ (cClone ty sz bytes).closed = true from fun h => by cases h), if_pos (show (cClone ty sz bytes).split = true from rfl)]
    simp only [splitArg, e1, e2]
    rw [if_pos ⟨by rw [List.take_length]; exact heq_refl H, by rw [List.take_length]; exact heq_refl H⟩]
  rw [this, calK_f, gc_same]
theorem clone_ref {cprog : Nat → Option CFn} {f ty sz bytes : Nat} (hat : cprog f = some (cClone ty sz bytes)) (b v o n : Nat) (src : List (List AV)) (H : Heap) (hs : rowsOf H (.ref b v sz o (n + 1)) = some src) (hne : src ≠ []) (hh : headOk sz src = true) (hb : src.length * bytes ≤ reach ∧ src.length ≤ reach) :
    cal (evC cprog) false f [.ref b v sz o (n + 1)] H = some (.ref H.length 0 sz 0 src.length, H ++ [⟨0, true, ty, sz, src⟩]) := by
  rw [cal_of hat]
  have ha := app_nil0 (ty := ty) (sz := sz) (bytes := bytes) (H := H) (a := .ref b v sz o (n + 1)) (src := src) hs hne hh hb
  have he : eqnK false 1 (some (.ref b v sz o (n + 1))) (some .nils) = some (.bool false) := rfl
  simp only [cClone, fn_split_ref, he, ha, evR, Nat.reduceAdd, Nat.reduceLT, Nat.reduceLeDiff, reduceIte, Nat.reduceEqDiff, reduceCtorEq, argEnv, eq_self, if_true, if_false]
/-! append -/
theorem src_ref (H : Heap) (b v sz o n : Nat) : srcRows H (.ref b v sz o (n + 1)) = (blkK H[b]? v sz).map fun k => (k.els.drop o).take (n + 1) := rfl
def apN (ty sz bytes : Nat) (H : Heap) (src : Option (List (List AV))) : Option (AV × Heap) :=
  match src with
  | some (r :: rs) => if r.length = sz ∧ (rs.length + 1) * bytes ≤ reach ∧ rs.length + 1 ≤ reach then some (.ref H.length 0 sz 0 (rs.length + 1), H ++ [⟨0, true, ty, sz, r :: rs⟩]) else none
  | some [] => some (.nil0, H)
  | none => none
theorem apN_cons (ty sz bytes : Nat) (H : Heap) (r : List AV) (rs : List (List AV)) : apN ty sz bytes H (some (r :: rs)) = if r.length = sz ∧ (rs.length + 1) * bytes ≤ reach ∧ rs.length + 1 ≤ reach then some (.ref H.length 0 sz 0 (rs.length + 1), H ++ [⟨0, true, ty, sz, r :: rs⟩]) else none := rfl
def emptyApp (s : AV) (H : Heap) : Option (AV × Heap) := if (evLen s).isSome = true then some (s, H) else none
def apS (s : AV) (ty sz bytes : Nat) (H : Heap) (src : Option (List (List AV))) : Option (AV × Heap) :=
  match src with
  | some [] => emptyApp s H
  | src => apN ty sz bytes H src
theorem apS_cons (s : AV) (ty sz bytes : Nat) (H : Heap) (r : List AV) (rs : List (List AV)) : apS s ty sz bytes H (some (r :: rs)) = apN ty sz bytes H (some (r :: rs)) := rfl
theorem app_nils (ty sz bytes : Nat) (keep : Bool) (H : Heap) (a : AV) : appK ty sz bytes keep H (some .nils) (some a) = apS .nils ty sz bytes H (srcRows H a) := by
  simp only [appK]
  cases srcRows H a with
  | none => rfl
  | some src =>
    cases src with
    | nil => rfl
    | cons r rs =>
      simp only [apS, apN, evApp, List.isEmpty_cons, Bool.false_eq_true, if_false, headOk, List.length_cons]
      by_cases h : r.length = sz <;> simp [h]
theorem app_nil0' (ty sz bytes : Nat) (keep : Bool) (H : Heap) (a : AV) : appK ty sz bytes keep H (some .nil0) (some a) = apS .nil0 ty sz bytes H (srcRows H a) := by
  simp only [appK]
  cases srcRows H a with
  | none => rfl
  | some src =>
    cases src with
    | nil => rfl
    | cons r rs =>
      simp only [apS, apN, evApp, List.isEmpty_cons, Bool.false_eq_true, if_false, headOk, List.length_cons]
      by_cases h : r.length = sz <;> simp [h]
def apR (ty sz bytes b v sz' len : Nat) (H : Heap) (src : Option (List (List AV))) (k : Option Blk) : Option (AV × Heap) :=
  match src, k with
  | some (r :: rs), some k => if r.length = sz ∧ sz' = sz ∧ k.ty = ty ∧ (len + (rs.length + 1)) * bytes ≤ reach ∧ len + (rs.length + 1) ≤ reach then
      some (.ref b (v + 1) sz 0 (len + (rs.length + 1)), H.set b { k with ver := v + 1, els := k.els.take len ++ r :: rs }) else none
  | some [], _ => some (.ref b v sz' 0 len, H)
  | _, _ => none
theorem apR_cons (ty sz bytes b v sz' len : Nat) (H : Heap) (r : List AV) (rs : List (List AV)) (k : Blk) : apR ty sz bytes b v sz' len H (some (r :: rs)) (some k) =
    if r.length = sz ∧ sz' = sz ∧ k.ty = ty ∧ (len + (rs.length + 1)) * bytes ≤ reach ∧ len + (rs.length + 1) ≤ reach then
      some (.ref b (v + 1) sz 0 (len + (rs.length + 1)), H.set b { k with ver := v + 1, els := k.els.take len ++ r :: rs }) else none := rfl
theorem app_ref (ty sz bytes : Nat) (H : Heap) (b v sz' len : Nat) (a : AV) : appK ty sz bytes false H (some (.ref b v sz' 0 len)) (some a) = apR ty sz bytes b v sz' len H (srcRows H a) (blkK H[b]? v sz') := by
  rw [← curBlk_eq]
  simp only [appK]
  cases srcRows H a with
  | none => cases curBlk H b v sz' <;> rfl
  | some src =>
    cases src with
    | nil => cases curBlk H b v sz' <;> rfl
    | cons r rs =>
      cases hk : curBlk H b v sz' with
      | none =>
        simp only [apR, evApp, List.isEmpty_cons, Bool.false_eq_true, if_false, headOk, hk]
        by_cases h : r.length = sz <;> simp [h]
      | some k =>
        simp only [apR, evApp, List.isEmpty_cons, Bool.false_eq_true, if_false, headOk, hk, List.length_cons, false_and]
        by_cases h : r.length = sz
        · by_cases h2 : sz' = sz ∧ k.ty = ty
          · simp [h, h2]
          · rw [if_neg (by simp [h]), if_neg h2, if_neg (fun hc => h2 ⟨hc.2.1, hc.2.2.1⟩)]
        · simp [h]
/- All rules as one (a conjunction, so that a text names them by one word). -/
set_option linter.defProp false in
def evW := (And.intro (And.intro (And.intro (And.intro @d_guard (And.intro @guardD_tt @guardD_ff)) (And.intro @guardD_tf (And.intro @guardD_ft @guardD_tup))) (And.intro (And.intro @src_ref (And.intro @apN_cons @apS_cons)) (And.intro (And.intro @app_nils @app_ref) (And.intro @apR_cons @plainD_alt)))) (And.intro (And.intro (And.intro @drawK_false (And.intro @d_eq @d_nil)) (And.intro @d_cons (And.intro @d_alt @nextD_some))) (And.intro (And.intro @nextE_some (And.intro @dK_some @again_eq)) (And.intro (And.intro @allA_nil @allA_cons) (And.intro @agK_some @beqO_same)))))
end Go.Proofs.YtbdpceigmnpoaaaGreatDoor.Ev
