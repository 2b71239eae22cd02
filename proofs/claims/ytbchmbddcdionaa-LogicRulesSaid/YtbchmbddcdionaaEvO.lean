/- A range over slices.Backward: its rounds in the evaluator and in the model's memory. -/
import Derived.Test.YtbchmbddcdionaaEvN
import Derived.RangeFuncCalls
import Derived.RangeFuncLeaves
import Derived.RangeFuncFrom
import Derived.TacticsIn
import Derived.ControlIn
set_option linter.unusedSimpArgs false
set_option linter.unusedVariables false
namespace Go.Proofs.Ytbchmbddcdionaa.Ev
open Go.RowKit

theorem wideFenced {P : Program} {m m' : Machine} (l : Nat) (h : Steps P m m') : StepsIn (Machine.fenced P (Fence.wide.inRound l)) P m m' := stepsIn_wide.2 h
/-- what an operation does it does in a round too -/
theorem oper_in {P : Program} {o : Oper} {a : Act} {w : World} {next : Act → World → Prop} {Q : Exit → Act → World → Prop} (l n : Nat) (hd : ∀ c, o.op ≠ .defer c) (h : o.wp P a w next Q) : o.wpIn (Fence.wide.inRound l) n P a w next Q := by
  refine ⟨fun _ _ => trivial, ?_⟩
  rw [Fence.inRound_round, Oper.semAt_some _ _ _ hd]
  unfold Oper.wp at h
  revert h
  generalize (execOp a.eval o).run P w = r
  intro h
  cases r with
  | ok nx w' =>
    cases nx with
    | value v => exact h
    | skip => exact h
    | defer d => exact h
    | enter f args =>
      refine ⟨fun e => ?_, (callsIn_wide.2 h).inRound l⟩
      cases e
    | row r args =>
      refine ⟨fun e => ?_, fun c cs _ => ?_⟩
      · cases e
      · obtain ⟨v, w2, hr, hs⟩ := h c cs
        exact ⟨v, w2, hr, wideFenced l hs⟩
    | _ => first | exact h | exact h.elim
  | halt hk w' => cases hk <;> first | exact h | exact h.elim
theorem okCO_defer {P : Program} {op : Op} {co : CO} (h : okCO P op co = true) : ∀ c, op ≠ .defer c := by
  intro c e
  subst e
  cases co <;> simp [okCO, okPure, okCall, okBox, okBslice, okStore, okMks, okApp, okCopy, okClear, okMv, okPick, okBuild, okLoad, okNilck, okBin, okEqb, okEqs, okEqn, okUn, okConvI, okStrid, okB2s, okMkfn, okSlc, okSlcs, okFaddr, okField', okIaddr, okIaddrA, okIdx, okIdxA, okExtract, okLen, okMM] at h
theorem opsR_sound {P : Program} {call : Nat → List AV → Heap → Option (AV × Heap)} (hcall : CallOk P call) {n : Nat} {ops : Array Oper} {Q : Exit → Act → World → Prop} {B : Nat} (l m : Nat) :
    ∀ (os : List Oper) (cs : List COp) (i : Nat) (S : Sta) (T : Env) (a : Act) (w : World) (T' : Env) (H' : Heap), okCOps P n ops os cs = true → (∀ j o, os[j]? = some o → ops[i + j]? = some o) →
      evOps call cs T S.H = some (T', H') → TAll S T a.tmps → WRel S w B → n ≤ a.tmps.size →
      (∀ a' w', Ends P S w B a T' H' a' w' → Q .normal a' w') → wpOpsIn (Fence.wide.inRound l) m P ops Q (List.range' i os.length) a w
  | [], [], i, S, T, a, w, T', H', _, _, hx, hT, hW, _, hQ => by
    simp only [evOps, Option.some.injEq, Prod.mk.injEq] at hx
    obtain ⟨rfl, rfl⟩ := hx
    simp only [List.length_nil, List.range'_zero, wpOpsIn]
    exact hQ a w ⟨S, rfl, hT, hW, Ext.refl S, Bel.refl B w, rfl, rfl⟩
  | [], _ :: _, _, _, _, _, _, _, _, h, _, _, _, _, _, _ => by simp [okCOps] at h
  | _ :: _, [], _, _, _, _, _, _, _, h, _, _, _, _, _, _ => by simp [okCOps] at h
  | o :: os, c :: cs, i, S, T, a, w, T', H', hok, hops, hx, hT, hW, hn, hQ => by
    simp only [okCOps, Bool.and_eq_true] at hok
    obtain ⟨hc, hok⟩ := hok
    unfold okCOp at hc
    simp only [Bool.and_eq_true, decide_eq_true_eq] at hc
    obtain ⟨⟨⟨hd, hlt⟩, hg⟩, hco⟩ := hc
    have hdlt : ∀ j, c.d = some j → j < a.tmps.size := by
      intro j hj
      rw [hj] at hlt
      simp only [decide_eq_true_eq] at hlt
      omega
    have ho : ops[i]? = some o := hops 0 o rfl
    have hnext : ∀ j o', os[j]? = some o' → ops[i + 1 + j]? = some o' := fun j o' hj => by
      have := hops (j + 1) o' (by simpa using hj)
      rwa [show i + (j + 1) = i + 1 + j by omega] at this
    simp only [List.length_cons, List.range'_succ, wpOpsIn, ho]
    simp only [evOps] at hx
    have hgd : ∀ r, evGuard T c.g = some r → Region.wanted o (yielded ops a.tmps) = r := fun r hr => guard_sound (S := S) hg (fun j b _ x hx => hT j x hx) hr
    split at hx
    · rename_i hgt
      rw [hgd true hgt, if_pos rfl]
      split at hx
      · rename_i v H1 hv
        refine oper_in l m (okCO_defer hco) (op_sound hcall hW (hT.rel _) hco hv fun u w' S' h1 h2 h3 h4 h5 => ?_)
        rw [hd]
        subst h1
        refine opsR_sound hcall l m os cs (i + 1) S' (put T c.d v) (a.put c.d u) w' T' H' hok hnext hx ((hT.ext h4).put h2 hdlt) h3 (by rw [put_size]; exact hn) fun a' w'' hend => ?_
        obtain ⟨S2, e1, e2, e3, e4, e5, e6, e7⟩ := hend
        exact hQ a' w'' ⟨S2, e1, e2, e3, h4.trans e4, h5.trans e5, by rw [e6, put_defers'], by rw [e7, put_size]⟩
      · cases hx
    · rename_i hgt
      rw [hgd false hgt]
      simp only [Bool.false_eq_true, if_false]
      rw [hd]
      refine ⟨fun _ _ => trivial, opsR_sound hcall l m os cs (i + 1) S (put T c.d (.tup [])) (a.put c.d undef) w T' H' hok hnext hx (hT.put (rep_undef S) hdlt) hW (by rw [put_size]; exact hn) fun a' w'' hend => ?_⟩
      obtain ⟨S2, e1, e2, e3, e4, e5, e6, e7⟩ := hend
      exact hQ a' w'' ⟨S2, e1, e2, e3, e4, e5, by rw [e6, put_defers'], by rw [e7, put_size]⟩
    · cases hx

/-- the code that a round may hold -/
def okR : CC → Bool
  | .skip => true
  | .region _ _ => true
  | .seq a b => okR a && okR b
  | .cond _ a b => okR a && okR b
  | .block _ a => okR a
  | .exit _ => true
  | _ => false
theorem codeR_sound {P : Program} {call : Nat → List AV → Heap → Option (AV × Heap)} (hcall : CallOk P call) {n B : Nat} {it : (St → Option (CX × St)) → St → Option (CX × St)} (l m : Nat) :
    ∀ (cc : CC) (c : Code) (S : Sta) (T : Env) (a : Act) (w : World) (cx : CX) (T' : Env) (H' : Heap) (Q : Exit → Act → World → Prop), okR cc = true → okCode P n c cc = true →
    evCode call it cc (T, S.H) = some (cx, (T', H')) → TAll S T a.tmps → WRel S w B → n ≤ a.tmps.size →
    (∀ a' w', Ends P S w B a T' H' a' w' → Q cx.exit' a' w') → c.wpIn (Fence.wide.inRound l) m P Q a w := by
  intro cc
  induction cc with
  | skip =>
    intro c S T a w cx T' H' Q hR hok hx hT hW hn hQ
    cases c <;> simp [okCode] at hok
    simp only [evCode, Option.some.injEq, Prod.mk.injEq] at hx
    obtain ⟨rfl, rfl, rfl⟩ := hx
    exact wpIn_skip (hQ a w ⟨S, rfl, hT, hW, Ext.refl S, Bel.refl B w, rfl, rfl⟩)
  | region ms cs =>
    intro c S T a w cx T' H' Q hR hok hx hT hW hn hQ
    cases c <;> try (simp [okCode] at hok; done)
    rename_i id ops d
    cases d <;> simp only [okCode] at hok
    case true => simp at hok
    simp only [evCode] at hx
    cases he : evOps call cs (keepEnv T ms) S.H with
    | none => simp [he] at hx
    | some s =>
      obtain ⟨T1, H1⟩ := s
      simp only [he, Option.map_some, Option.some.injEq, Prod.mk.injEq] at hx
      obtain ⟨rfl, rfl, rfl⟩ := hx
      refine wpIn_region ?_
      have h := opsR_sound hcall (n := n) (ops := ops) (Q := Q) (B := B) l m ops.toList cs 0 S (keepEnv T ms) a w T1 H1 hok (fun j o h => by simpa using h) he (hT.keep ms) hW hn hQ
      rw [List.range_eq_range']
      simpa using h
  | seq x y ihx ihy =>
    intro c S T a w cx T' H' Q hR hok hx hT hW hn hQ
    cases c <;> try (simp [okCode] at hok; done)
    rename_i cx1 cy1
    simp only [okCode, Bool.and_eq_true] at hok
    simp only [okR, Bool.and_eq_true] at hR
    simp only [evCode] at hx
    refine wpIn_seq ?_
    cases he : evCode call it x (T, S.H) with
    | none => simp [he] at hx
    | some r =>
      obtain ⟨e1, T1, H1⟩ := r
      refine ihx cx1 S T a w e1 T1 H1 _ hR.1 hok.1 he hT hW hn fun a1 w1 hend => ?_
      obtain ⟨S1, g1, g2, g3, g4, g5, g6, g7⟩ := hend
      cases e1 with
      | normal =>
        simp only [he] at hx
        show cy1.wpIn _ m P Q a1 w1
        subst g1
        exact ihy cy1 S1 T1 a1 w1 cx T' H' Q hR.2 hok.2 hx g2 g3 (by rw [g7]; exact hn) fun a' w' h => hQ a' w' (Ends.trans g4 g5 g6 g7 h)
      | exit id =>
        simp only [he, Option.some.injEq, Prod.mk.injEq] at hx
        obtain ⟨rfl, rfl, rfl⟩ := hx
        exact hQ a1 w1 ⟨S1, g1, g2, g3, g4, g5, g6, g7⟩
      | ret =>
        simp only [he, Option.some.injEq, Prod.mk.injEq] at hx
        obtain ⟨rfl, rfl, rfl⟩ := hx
        exact hQ a1 w1 ⟨S1, g1, g2, g3, g4, g5, g6, g7⟩
  | cond co x y ihx ihy =>
    intro c S T a w cx T' H' Q hR hok hx hT hW hn hQ
    cases c <;> try (simp [okCode] at hok; done)
    rename_i c0 cx1 cy1
    simp only [okCode, Bool.and_eq_true] at hok
    simp only [okR, Bool.and_eq_true] at hR
    simp only [evCode] at hx
    split at hx
    · rename_i h1
      exact wpIn_cond_true (rep_bool (opd_rep (hT.rel co.slots) hok.1.1 (fun _ h => h) h1)) (ihx cx1 S T a w cx T' H' Q hR.1 hok.1.2 hx hT hW hn hQ)
    · rename_i h1
      exact wpIn_cond_false (rep_bool (opd_rep (hT.rel co.slots) hok.1.1 (fun _ h => h) h1)) (ihy cy1 S T a w cx T' H' Q hR.2 hok.2 hx hT hW hn hQ)
    · cases hx
  | block id x ihx =>
    intro c S T a w cx T' H' Q hR hok hx hT hW hn hQ
    cases c <;> try (simp [okCode] at hok; done)
    rename_i id' cx1
    simp only [okCode, Bool.and_eq_true, decide_eq_true_eq] at hok
    obtain ⟨rfl, hok⟩ := hok
    simp only [okR] at hR
    simp only [evCode] at hx
    refine wpIn_block ?_
    cases he : evCode call it x (T, S.H) with
    | none => simp [he] at hx
    | some r =>
      obtain ⟨e1, T1, H1⟩ := r
      refine ihx cx1 S T a w e1 T1 H1 _ hR hok he hT hW hn fun a1 w1 hend => ?_
      cases e1 with
      | normal =>
        simp only [he, Option.some.injEq, Prod.mk.injEq] at hx
        obtain ⟨rfl, rfl, rfl⟩ := hx
        exact hQ a1 w1 hend
      | exit j =>
        simp only [he] at hx
        show Exit.inBlock _ Q (.exit j) a1 w1
        unfold Exit.inBlock
        split at hx
        · rename_i hj
          simp only [Option.some.injEq, Prod.mk.injEq] at hx
          obtain ⟨rfl, rfl, rfl⟩ := hx
          simp only [hj, if_true]
          exact hQ a1 w1 hend
        · rename_i hj
          simp only [Option.some.injEq, Prod.mk.injEq] at hx
          obtain ⟨rfl, rfl, rfl⟩ := hx
          simp only [hj, if_false]
          exact hQ a1 w1 hend
      | ret =>
        simp only [he, Option.some.injEq, Prod.mk.injEq] at hx
        obtain ⟨rfl, rfl, rfl⟩ := hx
        exact hQ a1 w1 hend
  | exit id =>
    intro c S T a w cx T' H' Q hR hok hx hT hW hn hQ
    cases c <;> try (simp [okCode] at hok; done)
    rename_i id'
    simp only [okCode, decide_eq_true_eq] at hok
    subst hok
    simp only [evCode, Option.some.injEq, Prod.mk.injEq] at hx
    obtain ⟨rfl, rfl, rfl⟩ := hx
    exact wpIn_exit (hQ a w ⟨S, rfl, hT, hW, Ext.refl S, Bel.refl B w, rfl, rfl⟩)
  | _ =>
    intro c S T a w cx T' H' Q hR
    simp [okR] at hR

/-- a range over a function that hands out known elements one by one, as long as the memory that it reads is good -/
theorem range_rule {P : Program} {g : Operand} {ps : Array Tmp} {assign body : Code} {Q : Exit → Act → World → Prop} {a : Act} {w : World} {gf : Nat} {lb : Array Value}
    (hg : a.eval g = .func (.func gf) #[] lb) (eg : ∀ args w, (callFunc gf args).run P w = .ok (.enter gf args) w)
    {α : Type} (encs : α → Array Value) (hps : ∀ x, (encs x).size = ps.size) (xs : List α) (Good : World → Prop)
    (hseq : ∀ (l : Nat) (J : Nat → World → Prop) (W : World), (∀ k W, J k W → Good W) →
      (∀ k x W1, xs[k]? = some x → J k W1 → YieldAt Fence.wide 1 P l (encs x) W1 fun e W' => e = .returned (.bool true) ∧ J (k + 1) W') → J 0 W →
      CallsIn Fence.wide 2 P gf (#[.func (.yield l) #[] #[]] ++ lb) W fun e W' => (∃ v, e = .returned v) ∧ J xs.length W')
    (I : Nat → World → Prop) (hI : ∀ k, OwnFrom w.heap.size fun (_ : Unit) W => I k W) (hIG : ∀ k W, I k W → Good W) (h0 : I 0 w) (a₁ : α → Act)
    (hassign : ∀ (l : Nat) (x : α) (W : World) (K : Act → World → Prop), K (a₁ x) W →
      assign.wpIn (Fence.wide.inRound l) 1 P (Exit.then K (fun _ _ _ => False)) { tmps := (ps.zip (encs x)).foldl (fun t (p, v) => t.setIfInBounds p v) a.tmps, defers := [] } W)
    (hbody : ∀ (l k : Nat) (x : α) (W : World), xs[k]? = some x → I k W → body.wpIn (Fence.wide.inRound l) 1 P (fun e _ W' => e = .normal ∧ KeepsOthers W W' ∧ I (k + 1) W') (a₁ x) W)
    (hdone : ∀ (D : Nat) (W : World), w.heap.size ≤ D → I xs.length W → W.heap[D]? = some (.deferred (some [])) → Q .normal { a with defers := { target := .collected D, args := #[] } :: a.defers } W) :
    (Code.rangeFunc g ps assign body).wpIn Fence.wide 3 P Q a w := by
  refine wpIn_rangeFunc fun fn hfn => ?_
  obtain ⟨lp, hlp⟩ : ∃ lp : LoopState → Loop, lp = fun st => { state := st, pending := none, fn, tmps := a.tmps, params := ps, assign, body, defers := w.heap.size } := ⟨_, rfl⟩
  have hin := run_enterLoop_outer (P := P) (w := w) fn a.tmps ps assign body
  obtain ⟨W1, hW1⟩ : ∃ W1, (w.alloc (.deferred (some []))).alloc (.loop (lp .ready)) = W1 := ⟨_, rfl⟩
  have hrec : W1.heap[w.heap.size + 1]? = some (.loop (lp .ready)) := by
    rw [← hW1]
    have := World.alloc_heap_new (w.alloc (.deferred (some []))) (.loop (lp .ready))
    rwa [World.size_alloc] at this
  have hdef : W1.heap[w.heap.size]? = some (.deferred (some [])) := by
    rw [← hW1]
    exact (Below.heap_alloc _ _ _ (by simp)).trans (World.alloc_heap_new w _)
  have hI1 : I 0 W1 := by
    rw [← hW1]
    exact (hI 0).alloc (s := ()) _ ((hI 0).alloc (s := ()) _ h0)
  refine ⟨w.heap.size + 1, [{ target := .collected w.heap.size, args := #[] }], W1, { target := .fn (.func gf) lb, args := #[.func (.yield (w.heap.size + 1)) #[] #[]] }, W1, gf,
    #[.func (.yield (w.heap.size + 1)) #[] #[]] ++ lb, W1, ?_, ?_, fun _ _ => trivial, ?_, fun _ => by omega, ?_⟩
  · rw [← hW1, hlp]; exact hin
  · simp only [resolve, hg]
    simp [go_sem]
  · simp [invoke, go_sem, eg]
  have hput : ∀ (k : Nat) (W : World) (o o' : Obj), I k W → W.heap[w.heap.size + 1]? = some o → o.isCells = false → I k (W.putObj (w.heap.size + 1) o') :=
    fun k W o o' hi ho hc => (hI k).putObj (s := ()) o' hi (by omega) ho hc
  refine (hseq (w.heap.size + 1) (fun k W => I k W ∧ W.heap[w.heap.size + 1]? = some (.loop (lp .ready)) ∧ W.heap[w.heap.size]? = some (.deferred (some []))) W1 (fun k W h => hIG k W h.1) ?_ ⟨hI1, hrec, hdef⟩).mono ?_
  · rintro k x W hx ⟨hi, hl, hk⟩
    have hlt : w.heap.size + 1 < W.heap.size := (Array.getElem?_eq_some_iff.1 hl).1
    have hy := run_yield (P := P) (args := encs x) hl (by rw [hlp]; exact hps x)
    rw [hlp] at hy
    refine ⟨fn, _, assign, body, hy, roundIn_of_wpIn hfn (hassign _ x W _ ⟨_, run_beginRound hl (by rw [hlp]), ?_⟩)⟩
    have hl2 : (W.putObj (w.heap.size + 1) (.loop { lp .ready with state := .busy })).heap[w.heap.size + 1]? = some (.loop { lp .ready with state := .busy }) := World.putObj_heap_same hlt
    have hk2 : (W.putObj (w.heap.size + 1) (.loop { lp .ready with state := .busy })).heap[w.heap.size]? = some (.deferred (some [])) := (World.putObj_heap_other (by omega)).trans hk
    refine wpIn_mono (hbody _ k x _ hx (hput k W _ _ hi hl rfl)) ?_
    rintro e a3 W3 ⟨rfl, hk3, hi3⟩
    have hl3 := hk3.same _ _ hl2 rfl
    have hk4 := hk3.same _ _ hk2 rfl
    refine ⟨_, _, run_endRound (P := P) none hl3, rfl, hput (k + 1) W3 _ _ hi3 hl3 rfl, ?_, (World.putObj_heap_other (by omega)).trans hk4⟩
    rw [World.putObj_heap_same (Array.getElem?_eq_some_iff.1 hl3).1, hlp]
    rfl
  · rintro e W2 ⟨⟨v, rfl⟩, hi, hl, hk⟩
    have hend := run_endLoop (P := P) hl (by rw [hlp]; simp)
    rw [hlp] at hend
    exact ⟨none, _, hend, hdone _ _ (Nat.le_refl _) (hput _ W2 _ _ hi hl rfl) ((World.putObj_heap_other (by omega)).trans hk)⟩
end Go.Proofs.Ytbchmbddcdionaa.Ev
