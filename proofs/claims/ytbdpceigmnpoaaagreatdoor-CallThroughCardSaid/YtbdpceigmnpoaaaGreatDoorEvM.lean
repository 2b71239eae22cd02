/- Code, functions, calls: the evaluator is sound. -/
import Derived.Test.YtbdpceigmnpoaaaGreatDoorEvL
set_option linter.unusedSimpArgs false
set_option linter.unusedVariables false
namespace Go.Proofs.YtbdpceigmnpoaaaGreatDoor.Ev
open Go.RowKit

def okCode (P : Program) (n : Nat) : Code → CC → Bool
  | .skip, .skip => true
  | .region _ ops false, .region _ cs => okCOps P n ops ops.toList cs
  | .region _ ops true, .draw _ cs => okCOps P n ops ops.toList cs && okDrawA ops cs.toArray
  | .seq a b, .seq a' b' => okCode P n a a' && okCode P n b b'
  | .cond c x y, .cond c' x' y' => okOpd c c' && okCode P n x x' && okCode P n y y'
  | .block id x, .block id' x' => decide (id = id') && okCode P n x x'
  | .loop x, .loop x' => okCode P n x x'
  | .exit id, .exit id' => decide (id = id')
  | .ret, .ret => true
  | _, .stuck => true
  | _, _ => false

def CX.exit' : CX → Exit
  | .normal => .normal
  | .exit id => .exit id
  | .ret => .ret

theorem Ends.trans {P : Program} {S S1 : Sta} {w w1 : World} {B : Nat} {a a1 : Act} {T' : Env} {H' : Heap} {a' : Act} {w' : World}
    (hE : Ext S S1) (hB : Bel B w w1) (hd : a1.defers = a.defers) (hs : a1.tmps.size = a.tmps.size) (h : Ends P S1 w1 B a1 T' H' a' w') : Ends P S w B a T' H' a' w' := by
  obtain ⟨S2, e1, e2, e3, e4, e5, e6, e7⟩ := h
  exact ⟨S2, e1, e2, e3, hE.trans e4, hB.trans e5, e6.trans hd, e7.trans hs⟩

section code
variable {P : Program} (hmix : P.follows .mixedOrders = true) {call : Nat → List AV → Heap → Option (AV × Heap)} (hcall : CallOk P call) {n B fuel : Nat}
include hmix hcall

theorem code_sound : ∀ (cc : CC) (c : Code) (S : Sta) (T : Env) (a : Act) (w : World) (cx : CX) (T' : Env) (H' : Heap) (Q : Exit → Act → World → Prop), okCode P n c cc = true →
    evCode call (fun body => iter body fuel) cc (T, S.H) = some (cx, (T', H')) → TAll S T a.tmps → WRel S w B → n ≤ a.tmps.size →
    (∀ a' w', Ends P S w B a T' H' a' w' → Q cx.exit' a' w') → c.wp P Q a w := by
  intro cc
  induction cc with
  | skip =>
    intro c S T a w cx T' H' Q hok hx hT hW hn hQ
    cases c <;> simp [okCode] at hok
    simp only [evCode, Option.some.injEq, Prod.mk.injEq] at hx
    obtain ⟨rfl, rfl, rfl⟩ := hx
    exact wp_skip (hQ a w ⟨S, rfl, hT, hW, Ext.refl S, Bel.refl B w, rfl, rfl⟩)
  | region m cs =>
    intro c S T a w cx T' H' Q hok hx hT hW hn hQ
    cases c <;> try (simp [okCode] at hok; done)
    rename_i id ops d
    cases d <;> simp only [okCode] at hok
    case true => simp at hok
    simp only [evCode] at hx
    cases he : evOps call cs (keepEnv T m) S.H with
    | none => simp [he] at hx
    | some s =>
      obtain ⟨T1, H1⟩ := s
      simp only [he, Option.map_some, Option.some.injEq, Prod.mk.injEq] at hx
      obtain ⟨rfl, rfl, rfl⟩ := hx
      refine wp_region ?_
      have h := ops_sound hcall (n := n) (ops := ops) (Q := Q) (B := B) ops.toList cs 0 S (keepEnv T m) a w T1 H1 hok (fun j o h => by simpa using h) he (hT.keep m) hW hn hQ
      rw [List.range_eq_range']
      simpa using h
  | draw m cs =>
    intro c S T a w cx T' H' Q hok hx hT hW hn hQ
    cases c <;> try (simp [okCode] at hok; done)
    rename_i id ops d
    cases d <;> simp only [okCode] at hok
    case false => simp at hok
    simp only [Bool.and_eq_true] at hok
    simp only [evCode] at hx
    cases he : evDraw call cs (keepEnv T m) S.H with
    | none => simp [he] at hx
    | some s =>
      obtain ⟨T1, H1⟩ := s
      simp only [he, Option.map_some, Option.some.injEq, Prod.mk.injEq] at hx
      obtain ⟨rfl, rfl, rfl⟩ := hx
      exact evDraw_sound hmix hcall hok.1 hok.2 he (hT.keep m) hW hn hQ
  | seq x y ihx ihy =>
    intro c S T a w cx T' H' Q hok hx hT hW hn hQ
    cases c <;> try (simp [okCode] at hok; done)
    rename_i cx1 cy1
    simp only [okCode, Bool.and_eq_true] at hok
    simp only [evCode] at hx
    refine wp_seq ?_
    cases he : evCode call (fun body => iter body fuel) x (T, S.H) with
    | none => simp [he] at hx
    | some r =>
      obtain ⟨e1, T1, H1⟩ := r
      refine ihx cx1 S T a w e1 T1 H1 _ hok.1 he hT hW hn fun a1 w1 hend => ?_
      obtain ⟨S1, g1, g2, g3, g4, g5, g6, g7⟩ := hend
      cases e1 with
      | normal =>
        simp only [he] at hx
        show cy1.wp P Q a1 w1
        subst g1
        exact ihy cy1 S1 T1 a1 w1 cx T' H' Q hok.2 hx g2 g3 (by rw [g7]; exact hn) fun a' w' h => hQ a' w' (Ends.trans g4 g5 g6 g7 h)
      | exit id =>
        simp only [he, Option.some.injEq, Prod.mk.injEq] at hx
        obtain ⟨rfl, rfl, rfl⟩ := hx
        exact hQ a1 w1 ⟨S1, g1, g2, g3, g4, g5, g6, g7⟩
      | ret =>
        simp only [he, Option.some.injEq, Prod.mk.injEq] at hx
        obtain ⟨rfl, rfl, rfl⟩ := hx
        exact hQ a1 w1 ⟨S1, g1, g2, g3, g4, g5, g6, g7⟩
  | cond co x y ihx ihy =>
    intro c S T a w cx T' H' Q hok hx hT hW hn hQ
    cases c <;> try (simp [okCode] at hok; done)
    rename_i c0 cx1 cy1
    simp only [okCode, Bool.and_eq_true] at hok
    simp only [evCode] at hx
    split at hx
    · rename_i h1
      exact wp_cond_true (rep_bool (opd_rep (hT.rel co.slots) hok.1.1 (fun _ h => h) h1)) (ihx cx1 S T a w cx T' H' Q hok.1.2 hx hT hW hn hQ)
    · rename_i h1
      exact wp_cond_false (rep_bool (opd_rep (hT.rel co.slots) hok.1.1 (fun _ h => h) h1)) (ihy cy1 S T a w cx T' H' Q hok.2 hx hT hW hn hQ)
    · cases hx
  | block id x ihx =>
    intro c S T a w cx T' H' Q hok hx hT hW hn hQ
    cases c <;> try (simp [okCode] at hok; done)
    rename_i id' cx1
    simp only [okCode, Bool.and_eq_true, decide_eq_true_eq] at hok
    obtain ⟨rfl, hok⟩ := hok
    simp only [evCode] at hx
    refine wp_block ?_
    cases he : evCode call (fun body => iter body fuel) x (T, S.H) with
    | none => simp [he] at hx
    | some r =>
      obtain ⟨e1, T1, H1⟩ := r
      refine ihx cx1 S T a w e1 T1 H1 _ hok he hT hW hn fun a1 w1 hend => ?_
      cases e1 with
      | normal =>
        simp only [he, Option.some.injEq, Prod.mk.injEq] at hx
        obtain ⟨rfl, rfl, rfl⟩ := hx
        exact hQ a1 w1 hend
      | exit j =>
        simp only [he] at hx
        show Exit.inBlock id' Q (.exit j) a1 w1
        unfold Exit.inBlock
        split at hx
        · rename_i hj
          simp only [Option.some.injEq, Prod.mk.injEq] at hx
          obtain ⟨rfl, rfl, rfl⟩ := hx
          simp only [hj, if_true]
          exact hQ a1 w1 hend
        · rename_i hj
          simp only [Option.some.injEq, Prod.mk.injEq] at hx
          obtain ⟨rfl, rfl, rfl⟩ := hx
          simp only [hj, if_false]
          exact hQ a1 w1 hend
      | ret =>
        simp only [he, Option.some.injEq, Prod.mk.injEq] at hx
        obtain ⟨rfl, rfl, rfl⟩ := hx
        exact hQ a1 w1 hend
  | loop x ihx =>
    intro c S T a w cx T' H' Q hok hx hT hW hn hQ
    cases c <;> try (simp [okCode] at hok; done)
    rename_i cx1
    simp only [okCode] at hok
    simp only [evCode] at hx
    have key : ∀ (k : Nat) (S : Sta) (T : Env) (a : Act) (w : World), iter (evCode call (fun body => iter body fuel) x) k (T, S.H) = some (cx, T', H') → TAll S T a.tmps → WRel S w B → n ≤ a.tmps.size →
        (∀ a' w', Ends P S w B a T' H' a' w' → Q cx.exit' a' w') → ∀ (b : Frame) (kk : List Item) (cs : List Frame),
        ∃ e a' w', Q e a' w' ∧ Arrives P (lone (b.at a (.code cx1 :: .inLoop cx1 :: kk)) cs w) b kk cs e a' w' := by
      intro k
      induction k with
      | zero => intro S T a w h; simp [iter] at h
      | succ k ih =>
        intro S T a w h hT hW hn hQ b kk cs
        simp only [iter] at h
        cases he : evCode call (fun body => iter body fuel) x (T, S.H) with
        | none => simp [he] at h
        | some r =>
          obtain ⟨e1, T1, H1⟩ := r
          have hwp := ihx cx1 S T a w e1 T1 H1 (fun e a' w' => e = e1.exit' ∧ Ends P S w B a T1 H1 a' w') hok he hT hW hn fun a' w' h => ⟨rfl, h⟩
          obtain ⟨e, a1, w1, ⟨he1, hend⟩, harr⟩ := hwp b (.inLoop cx1 :: kk) cs
          subst he1
          cases e1 with
          | normal =>
            simp only [he] at h
            obtain ⟨S1, g1, g2, g3, g4, g5, g6, g7⟩ := hend
            subst g1
            obtain ⟨e, a2, w2, hq, harr2⟩ := ih S1 T1 a1 w1 h g2 g3 (by rw [g7]; exact hn) (fun a' w' h => hQ a' w' (Ends.trans g4 g5 g6 g7 h)) b kk cs
            exact ⟨e, a2, w2, hq, .of_steps (Steps.trans harr (.one step_inLoop)) harr2⟩
          | exit id =>
            simp only [he, Option.some.injEq, Prod.mk.injEq] at h
            obtain ⟨rfl, rfl, rfl⟩ := h
            exact ⟨_, a1, w1, hQ a1 w1 hend, .pass (x := .inLoop cx1) rfl (fun _ _ => .inl (by simp [CX.exit'])) harr⟩
          | ret =>
            simp only [he, Option.some.injEq, Prod.mk.injEq] at h
            obtain ⟨rfl, rfl, rfl⟩ := h
            exact ⟨_, a1, w1, hQ a1 w1 hend, .pass (x := .inLoop cx1) rfl (fun _ _ => .inl (by simp [CX.exit'])) harr⟩
    intro b kk cs
    obtain ⟨e, a', w', hq, harr⟩ := key fuel S T a w hx hT hW hn hQ b kk cs
    exact ⟨e, a', w', hq, .of_steps (.one step_loop) harr⟩
  | exit id =>
    intro c S T a w cx T' H' Q hok hx hT hW hn hQ
    cases c <;> try (simp [okCode] at hok; done)
    rename_i id'
    simp only [okCode, decide_eq_true_eq] at hok
    subst hok
    simp only [evCode, Option.some.injEq, Prod.mk.injEq] at hx
    obtain ⟨rfl, rfl, rfl⟩ := hx
    exact wp_exit (hQ a w ⟨S, rfl, hT, hW, Ext.refl S, Bel.refl B w, rfl, rfl⟩)
  | ret =>
    intro c S T a w cx T' H' Q hok hx hT hW hn hQ
    cases c <;> try (simp [okCode] at hok; done)
    simp only [evCode, Option.some.injEq, Prod.mk.injEq] at hx
    obtain ⟨rfl, rfl, rfl⟩ := hx
    exact wp_ret (hQ a w ⟨S, rfl, hT, hW, Ext.refl S, Bel.refl B w, rfl, rfl⟩)
  | stuck =>
    intro c S T a w cx T' H' Q hok hx hT hW hn hQ
    simp [evCode] at hx
  | user p =>
    intro c S T a w cx T' H' Q hok hx hT hW hn hQ
    cases c <;> simp [okCode] at hok
  | scope x _ =>
    intro c S T a w cx T' H' Q hok
    cases c <;> simp [okCode] at hok
  | rfb g t i j d x _ =>
    intro c S T a w cx T' H' Q hok
    cases c <;> simp [okCode] at hok
end code

/-! results -/
def okRes (P : Program) : List ResultVar → List CRes → Bool
  | [], [] => true
  | .tmp t :: l, .t i :: m => decide (t = i) && okRes P l m
  | .cell t ty :: l, .cell i ag sz :: m => decide (t = i) && decide (sizeT P ty = some sz) && decide (aggT P ty = some ag) && okRes P l m
  | _, _ => false
def resOf (tmps : Array Value) : ResultVar → Sem Value
  | .tmp t => pure (tmps.getD t undef)
  | .cell a t => do loadVar t (← asAddr (tmps.getD a undef))
theorem res_sound {P : Program} {S : Sta} {w : World} {B : Nat} (hW : WRel S w B) {T : Env} {tmps : Array Value} (hT : TAll S T tmps) : ∀ (rs : List ResultVar) (cs : List CRes) (vs : List AV), okRes P rs cs = true → evRess T S.H cs = some vs →
    ∃ us : List Value, (rs.mapM (resOf tmps)).run P w = Result.ok us w ∧ vs.length = us.length ∧ ∀ (i : Nat) (x : AV) (v : Value), vs[i]? = some x → us[i]? = some v → Rep1 S x v
  | [], [], vs, _, h => by simp [evRess] at h; subst h; exact ⟨[], by simp, rfl, by simp⟩
  | [], _ :: _, _, h, _ => by simp [okRes] at h
  | .tmp _ :: _, [], _, h, _ => by simp [okRes] at h
  | .cell _ _ :: _, [], _, h, _ => by simp [okRes] at h
  | .tmp _ :: _, .cell _ _ _ :: _, _, h, _ => by simp [okRes] at h
  | .cell _ _ :: _, .t _ :: _, _, h, _ => by simp [okRes] at h
  | .tmp t :: l, .t i :: m, vs, hok, h => by
    simp only [okRes, Bool.and_eq_true, decide_eq_true_eq] at hok
    obtain ⟨rfl, hok⟩ := hok
    simp only [evRess] at h
    split at h
    · rename_i v ws h1 h2
      cases h
      obtain ⟨us, e1, e2, e3⟩ := res_sound hW hT l m ws hok h2
      simp only [evRes] at h1
      split at h1
      · rename_i v' hv'
        split at h1
        · cases h1
        · rename_i hnt
          cases h1
          obtain ⟨u, hu, hr⟩ := hT t _ hv'
          refine ⟨u :: us, ?_, by simp [e2], fun j x y hx hy => ?_⟩
          · simp only [List.mapM_cons, Sem.run_bind, resOf, Sem.run_pure, Result.andThen_ok, e1, Array.getD_eq_getD_getElem?, hu, Option.getD_some]
          · cases j with
            | zero => simp at hx hy; subst hx; subst hy; exact rep1_of hr (by cases h : AV.isTup v <;> simp_all)
            | succ j => exact e3 j x y (by simpa using hx) (by simpa using hy)
      · cases h1
    · cases h
  | .cell t ty :: l, .cell i ag sz :: m, vs, hok, h => by
    simp only [okRes, Bool.and_eq_true, decide_eq_true_eq] at hok
    obtain ⟨⟨⟨rfl, hs⟩, ha⟩, hok⟩ := hok
    simp only [evRess] at h
    split at h
    · rename_i v ws h1 h2
      cases h
      obtain ⟨us, e1, e2, e3⟩ := res_sound hW hT l m ws hok h2
      simp only [evRes] at h1
      split at h1
      · rename_i p hp
        obtain ⟨u, hu, hr⟩ := hT t _ hp
        obtain ⟨ad, hua, z, hz, hrz⟩ := load_sound hW hr hs ha h1
        refine ⟨z :: us, ?_, by simp [e2], fun j x y hx hy => ?_⟩
        · simp only [List.mapM_cons, Sem.run_bind, resOf, Array.getD_eq_getD_getElem?, hu, Option.getD_some, hua, asAddr, Sem.run_pure, Result.andThen_ok, hz, e1]
        · cases j with
          | zero => simp at hx hy; subst hx; subst hy; exact hrz
          | succ j => exact e3 j x y (by simpa using hx) (by simpa using hy)
      · cases h1
    · cases h

theorem results_eq (fn : Func) (tmps : Array Value) : results fn tmps = (do let vs ← fn.results.mapM (resOf tmps); pure (if h : vs.size = 1 then vs[0] else .tuple vs)) := by
  unfold results
  congr 2
def okFn (P : Program) (f : Nat) (c : CFn) : Bool :=
  match P.funcs[f]? with
  | some fn => !(fn.name == "runtime.NumGoroutine") && (match fn.body with | some code => okCode P c.ntmps code c.body | none => false) && decide (c.ntmps ≤ fn.ntmps) && okRes P fn.results.toList c.res
  | none => false

theorem argEnv_get : ∀ (args : List AV) (i t : Nat), get (argEnv i args) t = if i ≤ t then args[t - i]? else none
  | [], i, t => by simp [argEnv, get]
  | a :: l, i, t => by
    simp only [argEnv, get, argEnv_get l (i + 1) t]
    by_cases h : i = t
    · subst h; simp
    · rw [if_neg h]
      by_cases h1 : i + 1 ≤ t
      · rw [if_pos h1, if_pos (by omega), show t - i = (t - (i + 1)) + 1 by omega]; simp
      · rw [if_neg h1, if_neg (by omega)]

theorem body_sound {P : Program} (hmix : P.follows .mixedOrders = true) {call : Nat → List AV → Heap → Option (AV × Heap)} (hcall : CallOk P call) {fuel : Nat} {f : Nat} {c : CFn} (hok : okFn P f c = true)
    {args : List AV} {S : Sta} {r : AV} {H' : Heap} (hx : evBody call (fun body => iter body fuel) c args S.H = some (r, H')) {w : World} {B : Nat} {vs : List Value} (hW : WRel S w B) (hl : args.length = vs.length)
    (hr : ∀ (i : Nat) (x : AV) (v : Value), args[i]? = some x → vs[i]? = some v → RepV S x v) :
    Calls P f vs.toArray w fun e w' => ∃ v S', e = .returned v ∧ S'.H = H' ∧ RepV S' r v ∧ WRel S' w' B ∧ Ext S S' ∧ Bel B w w' := by
  unfold okFn at hok
  split at hok
  · rename_i fn hf
    simp only [Bool.and_eq_true, decide_eq_true_eq] at hok
    obtain ⟨⟨⟨_, h2⟩, h3⟩, h4⟩ := hok
    split at h2
    · rename_i code hb
      refine calls_of_wp hf hb ?_
      have hT : TAll S (argEnv 0 args) (vs.toArray ++ Array.replicate (fn.ntmps - vs.toArray.size) undef) := by
        intro t x hx
        rw [argEnv_get, if_pos (Nat.zero_le _), Nat.sub_zero] at hx
        have ht := (List.getElem?_eq_some_iff.1 hx).1
        have ht' : t < vs.length := by omega
        exact ⟨vs[t], by rw [Array.getElem?_append_left (by simpa using ht')]; simp [ht'], hr t x _ hx (List.getElem?_eq_getElem ht')⟩
      have hsize : c.ntmps ≤ (vs.toArray ++ Array.replicate (fn.ntmps - vs.toArray.size) undef).size := by simp; omega
      have fin : ∀ (T' : Env) (H1 : Heap) (a' : Act) (w' : World) (us : List AV), evRess T' H1 c.res = some us → r = packRes us → H' = H1 →
          Ends P S w B { tmps := vs.toArray ++ Array.replicate (fn.ntmps - vs.toArray.size) undef, defers := [] } T' H1 a' w' →
          a'.defers = [] ∧ ∃ v, (results fn a'.tmps).run P w' = .ok v w' ∧ ∃ v' S', Ending.returned v = .returned v' ∧ S'.H = H' ∧ RepV S' r v' ∧ WRel S' w' B ∧ Ext S S' ∧ Bel B w w' := by
        rintro T' H1 a' w' us hus rfl rfl ⟨S', g1, g2, g3, g4, g5, g6, g7⟩
        subst g1
        obtain ⟨zs, e1, e2, e3⟩ := res_sound g3 g2 fn.results.toList c.res us h4 hus
        refine ⟨g6, if h : zs.toArray.size = 1 then zs.toArray[0] else .tuple zs.toArray, ?_, _, S', rfl, rfl, ?_, g3, g4, g5⟩
        · rw [results_eq, Sem.run_bind, Array.mapM_eq_mapM_toList]
          simp only [Sem.run_map]
          rw [e1]
          simp
        · by_cases h : zs.length = 1
          · obtain ⟨z, rfl⟩ := List.length_eq_one_iff.1 h
            obtain ⟨u, rfl⟩ := List.length_eq_one_iff.1 (e2.trans h)
            simp only [packRes, List.size_toArray, List.length_cons, List.length_nil, Nat.zero_add, dif_pos]
            exact .one (e3 0 u z rfl rfl)
          · rw [dif_neg (by simpa using h)]
            have : packRes us = .tup us := by
              cases us with
              | nil => rfl
              | cons u us =>
                cases us with
                | nil => simp at e2; omega
                | cons => rfl
            rw [this]
            exact .tup _ _ e2 e3
      unfold evBody at hx
      split at hx
      · rename_i T' H1 he
        cases hus : evRess T' H1 c.res with
        | none => simp [hus] at hx
        | some us =>
          simp only [hus, Option.map_some, Option.some.injEq, Prod.mk.injEq] at hx
          exact code_sound hmix hcall (fuel := fuel) c.body code S _ _ w .normal T' H1 _ h2 he hT hW hsize fun a' w' h => fin T' H1 a' w' us hus hx.1.symm hx.2.symm h
      · rename_i T' H1 he
        cases hus : evRess T' H1 c.res with
        | none => simp [hus] at hx
        | some us =>
          simp only [hus, Option.map_some, Option.some.injEq, Prod.mk.injEq] at hx
          exact code_sound hmix hcall (fuel := fuel) c.body code S _ _ w .ret T' H1 _ h2 he hT hW hsize fun a' w' h => fin T' H1 a' w' us hus hx.1.symm hx.2.symm h
      · cases hx
    · simp at h2
  · simp at hok

theorem splitArg_some {args rest : List AV} (h : splitArg args = some rest) : ∃ a0, args = a0 :: rest ∧ ∀ S v, RepV S a0 v → ∃ ad cap, v = .slice ad ([] : List (List AV)).length cap ∧ (ad = none → cap = 0) := by
  unfold splitArg at h
  split at h
  · cases h
    exact ⟨_, rfl, fun S v h0 => by
      obtain ⟨ad, cap, rfl, _, _, hnone⟩ := rep_lst h0
      exact ⟨ad, cap, rfl, hnone⟩⟩
  · cases h
    exact ⟨_, rfl, fun S v h0 => by
      cases h0 with | one h => cases h with | s h => cases h with | frz h => cases h; exact ⟨_, 0, rfl, fun _ => rfl⟩⟩
  · cases h
theorem fn_sound {P : Program} (hmix : P.follows .mixedOrders = true) {call : Nat → List AV → Heap → Option (AV × Heap)} (hcall : CallOk P call) {fuel : Nat} {f : Nat} {c : CFn} (hok : okFn P f c = true)
    {args : List AV} {S : Sta} {r : AV} {H' : Heap} (hx : evFn call (fun body => iter body fuel) c args S.H = some (r, H')) {w : World} {B : Nat} {vs : List Value} (hW : WRel S w B) (hl : args.length = vs.length)
    (hr : ∀ (i : Nat) (x : AV) (v : Value), args[i]? = some x → vs[i]? = some v → RepV S x v) :
    Calls P f vs.toArray w fun e w' => ∃ v S', e = .returned v ∧ S'.H = H' ∧ RepV S' r v ∧ WRel S' w' B ∧ Ext S S' ∧ Bel B w w' := by
  unfold evFn at hx
  split at hx
  · split at hx
    · split at hx
      · rename_i b H1 e1
        cases hx
        have hvs : vs = [] := List.eq_nil_of_length_eq_zero (by simpa using hl.symm)
        subst hvs
        refine (body_sound hmix hcall hok (S := ⟨[], [], S.M⟩) (B := w.heap.size) e1 (vs := []) ⟨rfl, fun b k h => by simp at h, fun b b' k k' g rc rc' h => by simp at h, hW.mem, Nat.le_refl _, hW.glob⟩ rfl fun i x v h => by simp at h).mono ?_
        rintro e w' ⟨v, S1, rfl, _, g2, _, _, g5⟩
        have hv : v = .bool b := by cases g2 with | one h => cases h with | s h => cases h with | frz h => cases h; rfl
        subst hv
        exact ⟨_, S, rfl, rfl, .one (.s (.frz (.bool _))), hW.same g5.size g5.block, .refl S, g5.mono hW.base⟩
      · cases hx
    · cases hx
  split at hx
  · split at hx
    · rename_i rest hrest
      split at hx
      · rename_i H1 H2 e1 e2
        split at hx
        · rename_i hh
          cases hx
          obtain ⟨a0, rfl, h00⟩ := splitArg_some hrest
          cases vs with
          | nil => simp at hl
          | cons v0 vs =>
            have h0 := hr 0 _ v0 rfl rfl
            obtain ⟨ad, cap, rfl, hnone⟩ := h00 S v0 h0
            have back : ∀ (x : AV) (H1 : Heap), heq (H1.take S.H.length) S.H = true → RepV S x (.slice ad ([] : List (List AV)).length cap) → (∀ (u : Value) (S' : Sta), RepV S' (.nil0 : AV) u → RepV S' .nil0 u) →
                ∀ (y : AV), evBody call (fun body => iter body fuel) c (x :: rest) S.H = some (y, H1) → (∀ S' u, RepV S' y u → RepV S' .nil0 u) →
                Calls P f ((.slice ad ([] : List (List AV)).length cap : Value) :: vs).toArray w fun e w' => ∃ v S', e = .returned v ∧ S'.H = S.H ∧ RepV S' .nil0 v ∧ WRel S' w' B ∧ Ext S S' ∧ Bel B w w' := by
              intro x H1 hh hrx _ y hy hconv
              refine (body_sound hmix hcall hok hy (vs := (.slice ad ([] : List (List AV)).length cap : Value) :: vs) hW (by simpa using hl) fun i z v hz hv => ?_).mono ?_
              · cases i with
                | zero => simp at hz hv; subst hz; subst hv; exact hrx
                | succ i => exact hr (i + 1) z v (by simpa using hz) (by simpa using hv)
              · rintro e w' ⟨v, S1, rfl, g1, g2, g3, g4, g5⟩
                obtain ⟨S3, q1, q2, q3, q4⟩ := gc_sound (r := .nil0) hW g3 g4 (hconv S1 v g2)
                refine ⟨v, S3, rfl, ?_, q2, q3, q4, g5⟩
                rw [q1, g1]
                unfold gc
                rw [if_pos ⟨rfl, hh⟩]
            cases ad with
            | none =>
              have hc := hnone rfl
              subst hc
              refine back .nils H1 hh.1 (.one (.s (.frz .nils))) (fun _ _ h => h) .nils e1 fun S' u h => ?_
              rw [rep_nils h]; exact .one (.s (.frz (.nil0 _)))
            | some ad => exact back .emp H2 hh.2 (.one (.s (.frz (.emp _ _)))) (fun _ _ h => h) .nil0 e2 fun S' u h => h
        · cases hx
      · cases hx
    · exact body_sound hmix hcall hok hx hW hl hr
  · exact body_sound hmix hcall hok hx hW hl hr

/-- a function that is held by a proof of its own -/
structure UserOk (P : Program) (f : Nat) (c : CFn) : Prop where
  fn : ∃ fn, P.funcs[f]? = some fn ∧ fn.body.isSome = true ∧ (fn.name == "runtime.NumGoroutine") = false
  ok : ∀ (p : List AV → Heap → Option (List AV × Heap)), c.body = .user p → ∀ (args : List AV) (H : Heap) (vs' : List AV) (H' : Heap), p args H = some (vs', H') → ∀ (S : Sta) (w : World) (B : Nat) (vs : List Value), S.H = H → WRel S w B → args.length = vs.length →
    (∀ (i : Nat) (x : AV) (v : Value), args[i]? = some x → vs[i]? = some v → RepV S x v) → Calls P f vs.toArray w fun e w' => ∃ v S', e = .returned v ∧ S'.H = H' ∧ RepV S' (packRes vs') v ∧ WRel S' w' B ∧ Ext S S' ∧ Bel B w w'
  user : ∃ p, c.body = .user p
  plain : c.closed = false ∧ c.split = false
  res : ∃ k, c.res = (List.range k).map .t ∧ ∀ p, c.body = .user p → ∀ args H q, p args H = some q → q.1.length = k
/-- a function whose code is held by a proof of its own -/
structure FnOk (P : Program) (f : Nat) (c : CFn) : Prop where
  fn : ∃ fn, P.funcs[f]? = some fn ∧ fn.body.isSome = true ∧ (fn.name == "runtime.NumGoroutine") = false
  ok : ∀ (call : Nat → List AV → Heap → Option (AV × Heap)), CallOk P call → ∀ (fuel : Nat) (args : List AV) (S : Sta) (r : AV) (H' : Heap), evFn call (fun body => iter body fuel) c args S.H = some (r, H') → ∀ (w : World) (B : Nat) (vs : List Value), WRel S w B → args.length = vs.length →
    (∀ (i : Nat) (x : AV) (v : Value), args[i]? = some x → vs[i]? = some v → RepV S x v) → Calls P f vs.toArray w fun e w' => ∃ v S', e = .returned v ∧ S'.H = H' ∧ RepV S' r v ∧ WRel S' w' B ∧ Ext S S' ∧ Bel B w w'
def Held (P : Program) (f : Nat) (c : CFn) : Prop := UserOk P f c ∨ FnOk P f c
theorem user_args : ∀ (args : List AV) (i : Nat), (argEnv i args).map (·.2) = args
  | [], _ => rfl
  | a :: l, i => by simp only [argEnv, List.map_cons, user_args l (i + 1)]
theorem user_get (vs : List AV) (H : Heap) : ∀ (k i : Nat) (rs : List AV), evRess (argEnv 0 vs) H ((List.range' i k).map .t) = some rs → i + k = vs.length → rs = vs.drop i
  | 0, i, rs, h, hl => by
    simp [evRess] at h
    rw [List.drop_eq_nil_of_le (by omega), h]
  | k + 1, i, rs, h, hl => by
    rw [List.range'_succ, List.map_cons] at h
    simp only [evRess, evRes, argEnv_get] at h
    rw [if_pos (Nat.zero_le _), Nat.sub_zero, List.getElem?_eq_getElem (show i < vs.length by omega)] at h
    simp only at h
    split at h
    · rename_i v us h1 h2
      cases h
      split at h1
      · cases h1
      · cases h1
        rw [user_get vs H k (i + 1) us h2 (by omega), List.drop_eq_getElem_cons (show i < vs.length by omega)]
    · cases h
/-- THE EVALUATOR IS SOUND -/
theorem evCall_sound {P : Program} (hmix : P.follows .mixedOrders = true) {prog : Nat → Option CFn} (hprog : ∀ f c, prog f = some c → okFn P f c = true ∨ Held P f c) : ∀ k, CallOk P (evCall prog k)
  | 0 => fun g args H r H' h => by simp [evCall] at h
  | k + 1 => fun g args H r H' h => by
    simp only [evCall] at h
    split at h
    · rename_i c hc
      rcases hprog g c hc with hok | hok | hok
      case inr.inr =>
        refine ⟨hok.fn, fun S w B vs hS hW hl hr => ?_⟩
        subst hS
        exact hok.ok _ (evCall_sound hmix hprog k) k args S r H' h w B vs hW hl hr
      case inr.inl =>
        refine ⟨hok.fn, fun S w B vs hS hW hl hr => ?_⟩
        obtain ⟨p, hp⟩ := hok.user
        obtain ⟨k', hk', hkl⟩ := hok.res
        unfold evFn at h
        rw [if_neg (by rw [hok.plain.1]; simp), if_neg (by rw [hok.plain.2]; simp)] at h
        simp only [evBody, hp, evCode, user_args] at h
        cases hq : p args H with
        | none => simp [hq] at h
        | some q =>
          obtain ⟨us, H1⟩ := q
          simp only [hq, Option.map_some, hk'] at h
          cases hrs : evRess (argEnv 0 us) H1 ((List.range k').map .t) with
          | none => simp [hrs] at h
          | some rs =>
            simp only [hrs, Option.map_some, Option.some.injEq, Prod.mk.injEq] at h
            obtain ⟨rfl, rfl⟩ := h
            refine (hok.ok p hp args H us H1 hq S w B vs hS hW hl hr).mono ?_
            rintro e w' ⟨v, S', g1, g2, g3, g4⟩
            have hlen := hkl p hp args H _ hq
            rw [List.range_eq_range'] at hrs
            have := user_get us H1 k' 0 rs hrs (by simp only at hlen; omega)
            rw [List.drop_zero] at this
            rw [this]
            exact ⟨v, S', g1, g2, g3, g4⟩
      refine ⟨?_, fun S w B vs hS hW hl hr => ?_⟩
      · unfold okFn at hok
        split at hok
        · rename_i fn hf
          simp only [Bool.and_eq_true, Bool.not_eq_true'] at hok
          refine ⟨fn, hf, ?_, hok.1.1.1⟩
          have := hok.1.1.2
          split at this
          · rename_i hb; rw [hb]; rfl
          · simp at this
        · simp at hok
      · subst hS
        exact fn_sound hmix (evCall_sound hmix hprog k) hok h hW hl hr
    · cases h
end Go.Proofs.YtbdpceigmnpoaaaGreatDoor.Ev
