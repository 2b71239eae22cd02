/- A function that ranges over slices.Backward: its code is held, with the marks that such a loop leaves among the deferred calls. -/
import Derived.Test.YtbchmbddcdionaaEvO
set_option linter.unusedSimpArgs false
set_option linter.unusedVariables false
namespace Go.Proofs.Ytbchmbddcdionaa.Ev
open Go.RowKit

/-- a slice of whole numbers lies in a cell -/
def BackAt (Bs : Addr) (zs : List Int) (W : World) : Prop :=
  zs.length * 8 ≤ reach ∧ ∃ a cap, W.cell? Bs = some (.slice a zs.length cap) ∧ ∀ (j : Nat) (z : Int), zs[j]? = some z → ∃ b off, a = some ⟨b, off, none⟩ ∧ W.cell? ⟨b, off + j, none⟩ = some (.int .i64 z)
theorem cell_sound {S : Sta} {w : World} {B : Nat} (hW : WRel S w B) {p : AV} {u : Value} (hr : RepV S p u) {x : AV} (hx : evLoad false 1 S.H p = some x) : ∃ a v, u = .pointer (some a) ∧ w.cell? a = some v ∧ RepS S x v := by
  unfold evLoad at hx
  split at hx
  · split at hx
    · rename_i k hk
      split at hx
      · rename_i row hrow
        obtain ⟨g, rc, cur, rfl, hB, hc⟩ := ptr_cells hW hr hk hrow
        simp only [Bool.false_eq_true, if_false] at hx
        obtain ⟨v, hv, hrv⟩ := hc 0 x (by rw [List.getElem?_drop]; exact hx)
        exact ⟨_, v, rfl, hv, hrv⟩
      · cases hx
    · cases hx
  · obtain ⟨g, o, rfl, hc⟩ := fptr_cells hW hr
    simp only [Bool.false_eq_true, if_false] at hx
    obtain ⟨v, hv, hrv⟩ := hc 0 x hx
    exact ⟨_, v, rfl, hv, hrv⟩
  · cases hx
theorem intsOf_at : ∀ (rows : List (List AV)) (zs : List Int), intsOf rows = some zs → rows.length = zs.length ∧ ∀ (j : Nat) (z : Int), zs[j]? = some z → rows[j]? = some [.int .i64 z]
  | [], zs, h => by simp [intsOf] at h; subst h; simp
  | r :: rows, zs, h => by
    unfold intsOf at h
    split at h
    · rename_i e; cases e
    · rename_i z l e
      cases e
      cases hz : intsOf rows with
      | none => rw [hz] at h; cases h
      | some ys =>
        rw [hz] at h
        cases h
        obtain ⟨h1, h2⟩ := intsOf_at rows ys hz
        refine ⟨by simp [h1], fun j y hj => ?_⟩
        cases j with
        | zero => simp at hj; subst hj; rfl
        | succ j => exact h2 j y (by simpa using hj)
    · cases h
theorem intsAt_sound {S : Sta} {w : World} {B : Nat} (hW : WRel S w B) {p : AV} {u : Value} (hr : RepV S p u) {zs : List Int} (h : intsAt S.H p = some zs) : ∃ Bs, u = .pointer (some Bs) ∧ BackAt Bs zs w := by
  unfold intsAt at h
  split at h
  · rename_i hx
    cases h
    obtain ⟨a, v, rfl, hv, hrv⟩ := cell_sound hW hr hx
    cases hrv with
    | frz hf => cases hf with
      | nils => exact ⟨a, rfl, by simp, none, 0, hv, by simp⟩
  · rename_i rows hx
    obtain ⟨a, v, rfl, hv, hrv⟩ := cell_sound hW hr hx
    split at h
    case isFalse => cases h
    rename_i hre
    obtain ⟨hl, hz⟩ := intsOf_at rows zs h
    cases hrv with
    | frz hf => cases hf with
      | lst0 a' cap =>
        cases zs with
        | nil => exact ⟨a, rfl, by simp, a', cap, hv, by simp⟩
        | cons z zs => simp at hl
      | lst _ g off sz cap cur uu h1 h2 h3 h4 h5 h6 =>
        refine ⟨a, rfl, by rw [← hl]; exact hre, _, cap, by rw [hv, hl], fun j z hj => ⟨g, off, rfl, ?_⟩⟩
        have hrow := hz j z hj
        have hs : sz = 1 := (h4 j _ hrow).symm
        subst hs
        obtain ⟨e, fr, he⟩ := hW.mem g cur h2
        have hu := h6 j 0 _ _ hrow rfl
        have hc := h5 j 0 _ _ hrow rfl
        generalize uu j 0 = q at hu hc
        cases hu
        have := cell_of_row w g (off + j) cur e fr he
        rw [this, ← hc]
        simp
  · cases h

theorem WRel.own {S : Sta} {w w' : World} {B : Nat} (h : WRel S w B) (hs : w.heap.size ≤ w'.heap.size) (hh : ∀ (g : Nat) (o : Obj), w.heap[g]? = some o → o.isCells = true → w'.heap[g]? = w.heap[g]?) : WRel S w' B := by
  refine ⟨h.len, fun b k hk hl => ?_, h.inj, fun g cur hg => ?_, Nat.le_trans h.base hs, h.glob⟩
  · obtain ⟨g, rc, cur, hb⟩ := h.blk b k hk hl
    exact ⟨g, rc, cur, { hb with heap := (hh g _ hb.heap rfl).trans hb.heap }⟩
  · obtain ⟨e, fr, he⟩ := h.mem g cur hg
    exact ⟨e, fr, (hh g _ he rfl).trans he⟩
theorem notCells_of {o : Obj} (h : o.isCells = false) : notCells o = true := by cases o <;> simp_all [Obj.isCells, notCells]
theorem isCells_of {o : Obj} (h : notCells o = true) : o.isCells = false := by cases o <;> simp_all [Obj.isCells, notCells]
/-- what the program holds does not mind the turn of a block beyond n that is no cells -/
theorem keeps_own {S : Sta} {w W W' : World} {B : Nat} {row : Option Nat} (hB : B ≤ w.heap.size) (hW : WRel S W B) (hb : Bel B w W) (hg : W.grownBy W' row) (hr : ∀ r, row = some r → w.heap.size ≤ r ∧ ∃ o : Obj, W.heap[r]? = some o ∧ o.isCells = false) : WRel S W' B ∧ Bel B w W' := by
  have hne : ∀ k, k < w.heap.size → some k ≠ row := fun k hk e => by have := (hr k e.symm).1; omega
  refine ⟨hW.own hg.size fun g o ho hc => hg.block g (Array.getElem?_eq_some_iff.1 ho).1 fun e => ?_, hg.os.trans hb.os, hg.tape.trans hb.tape, hg.output.trans hb.output, Nat.le_trans hb.size hg.size, fun k hk => ?_, fun k o hk hn => ?_⟩
  · obtain ⟨_, o', ho', hc'⟩ := hr g e.symm
    rw [ho] at ho'
    cases ho'
    rw [hc] at hc'
    cases hc'
  · exact (hg.block k (by have := hb.size; omega) (hne k (by omega))).trans (hb.block k hk)
  · have h1 := hb.others k o hk hn
    exact (hg.block k (Array.getElem?_eq_some_iff.1 h1).1 (hne k (Array.getElem?_eq_some_iff.1 hk).1)).trans h1

/-- a markD among the deferred calls -/
def markD (D : Nat) : Deferred := { target := .collected D, args := #[] }
def Marks (w w' : World) (a a' : Act) : Prop := ∃ ds : List Nat, a'.defers = ds.map markD ++ a.defers ∧ ds.Nodup ∧ ∀ D ∈ ds, w.heap.size ≤ D ∧ w'.heap[D]? = some (.deferred (some []))
theorem Marks.none {w w' : World} {a a' : Act} (h : a'.defers = a.defers) : Marks w w' a a' := ⟨[], h, List.nodup_nil, by simp⟩
theorem Marks.trans {w w1 w' : World} {a a1 a' : Act} {B : Nat} (h : Marks w w1 a a1) (hB : Bel B w w1) (h' : Marks w1 w' a1 a') (hB' : Bel B w1 w') : Marks w w' a a' := by
  obtain ⟨ds, e1, e2, e3⟩ := h
  obtain ⟨ds', e1', e2', e3'⟩ := h'
  refine ⟨ds' ++ ds, by rw [e1', e1, List.map_append, List.append_assoc], List.nodup_append.2 ⟨e2', e2, fun x hx y hy e => ?_⟩, fun D hD => ?_⟩
  · subst e
    have h1 := (e3' x hx).1
    have h2 := (Array.getElem?_eq_some_iff.1 (e3 x hy).2).1
    omega
  · rcases List.mem_append.1 hD with hD | hD
    · exact ⟨Nat.le_trans hB.size (e3' D hD).1, (e3' D hD).2⟩
    · exact ⟨(e3 D hD).1, hB'.others D _ (e3 D hD).2 rfl⟩
def EndsM (S : Sta) (w : World) (B : Nat) (a : Act) (T' : Env) (H' : Heap) (a' : Act) (w' : World) : Prop :=
  ∃ S', S'.H = H' ∧ TAll S' T' a'.tmps ∧ WRel S' w' B ∧ Ext S S' ∧ Bel B w w' ∧ Marks w w' a a' ∧ a'.tmps.size = a.tmps.size
theorem EndsM.of {P : Program} {S : Sta} {w : World} {B : Nat} {a : Act} {T' : Env} {H' : Heap} {a' : Act} {w' : World} (h : Ends P S w B a T' H' a' w') : EndsM S w B a T' H' a' w' := by
  obtain ⟨S', g1, g2, g3, g4, g5, g6, g7⟩ := h
  exact ⟨S', g1, g2, g3, g4, g5, .none g6, g7⟩
theorem EndsM.trans {S S1 : Sta} {w w1 : World} {B : Nat} {a a1 : Act} {T' : Env} {H' : Heap} {a' : Act} {w' : World}
    (hE : Ext S S1) (hB : Bel B w w1) (hd : Marks w w1 a a1) (hs : a1.tmps.size = a.tmps.size) (h : EndsM S1 w1 B a1 T' H' a' w') : EndsM S w B a T' H' a' w' := by
  obtain ⟨S2, e1, e2, e3, e4, e5, e6, e7⟩ := h
  exact ⟨S2, e1, e2, e3, hE.trans e4, hB.trans e5, hd.trans hB e6 e5, e7.trans hs⟩

/-- what a closure of slices.Backward does: it hands out the numbers, the last one first -/
structure BackOk (P : Program) (gb : Nat) : Prop where
  enter : ∀ args w, (callFunc gb args).run P w = .ok (.enter gb args) w
  gives : ∀ (Bs : Addr) (zs : List Int) (l : Nat) (J : Nat → World → Prop) (W : World), (∀ k W, J k W → BackAt Bs zs W) →
      (∀ (k : Nat) (x : Int × Nat) W1, zs.zipIdx.reverse[k]? = some x → J k W1 → YieldAt Fence.wide 1 P l #[.int .i64 (x.2 : Int), .int .i64 x.1] W1 fun e W' => e = .returned (.bool true) ∧ J (k + 1) W') → J 0 W →
      CallsIn Fence.wide 2 P gb #[.func (.yield l) #[] #[], .pointer (some Bs)] W fun e W' => (∃ v, e = .returned v) ∧ J zs.length W'

def okAsg (d j : Nat) : Code → Bool
  | .region _ ops false => match ops.toList with
    | [o] => decide (o.dst = some d) && o.guard.isNone && (match o.op with | .assign (.tmp j') => decide (j' = j) | _ => false)
    | _ => false
  | _ => false
def okCodeM (P : Program) (n gb : Nat) : Code → CC → Bool
  | .rangeFunc (.tmp t') ps asg body, .rfb g t i j d x => decide (g = gb) && decide (t' = t) && decide (ps = #[i, j]) && okAsg d j asg && decide (i < n) && decide (j < n) && decide (d < n) && okR x && okCode P n body x
  | .seq a b, .seq a' b' => okCodeM P n gb a a' && okCodeM P n gb b b'
  | .cond c x y, .cond c' x' y' => okOpd c c' && okCodeM P n gb x x' && okCodeM P n gb y y'
  | .block id x, .block id' x' => decide (id = id') && okCodeM P n gb x x'
  | c, cc => okCode P n c cc
theorem asg_in {P : Program} {d j : Nat} {c : Code} (h : okAsg d j c = true) {a : Act} {v : Value} (hv : a.tmps[j]? = some v) {w : World} {l n : Nat} {Q : Exit → Act → World → Prop} (hQ : Q .normal (a.put (some d) v) w) :
    c.wpIn (Fence.wide.inRound l) n P Q a w := by
  unfold okAsg at h
  split at h
  · rename_i id ops
    split at h
    · rename_i o ho
      simp only [Bool.and_eq_true, decide_eq_true_eq, Option.isNone_iff_eq_none] at h
      obtain ⟨⟨h1, h2⟩, h3⟩ := h
      split at h3
      · rename_i j' he
        simp only [decide_eq_true_eq] at h3
        subst h3
        refine wpIn_region_list ?_
        rw [ho]
        refine wpListIn_plain h2 fun K hK => ?_
        refine oper_in l n (by rw [he]; intro c e; cases e) ?_
        unfold Oper.wp
        simp only [execOp, he, Sem.run_pure, Oper.upon]
        refine hK _ _ ?_
        rw [h1]
        simp only [Act.eval, Array.getD_eq_getD_getElem?, hv, Option.getD_some]
        exact hQ
      · cases h3
    · cases h
  · cases h

theorem codeM_sound {P : Program} (hmix : P.follows .mixedOrders = true) {call : Nat → List AV → Heap → Option (AV × Heap)} (hcall : CallOk P call) {n B fuel gb : Nat} (hgb : BackOk P gb) :
    ∀ (cc : CC) (c : Code) (S : Sta) (T : Env) (a : Act) (w : World) (cx : CX) (T' : Env) (H' : Heap) (Q : Exit → Act → World → Prop), okCodeM P n gb c cc = true →
    evCode call (fun body => iter body fuel) cc (T, S.H) = some (cx, (T', H')) → TAll S T a.tmps → WRel S w B → n ≤ a.tmps.size →
    (∀ a' w', EndsM S w B a T' H' a' w' → Q cx.exit' a' w') → c.wp P Q a w := by
  have leaf : ∀ (cc : CC) (c : Code) (S : Sta) (T : Env) (a : Act) (w : World) (cx : CX) (T' : Env) (H' : Heap) (Q : Exit → Act → World → Prop), okCode P n c cc = true →
      evCode call (fun body => iter body fuel) cc (T, S.H) = some (cx, (T', H')) → TAll S T a.tmps → WRel S w B → n ≤ a.tmps.size →
      (∀ a' w', EndsM S w B a T' H' a' w' → Q cx.exit' a' w') → c.wp P Q a w :=
    fun cc c S T a w cx T' H' Q hok hx hT hW hn hQ => code_sound hmix hcall (fuel := fuel) cc c S T a w cx T' H' Q hok hx hT hW hn fun a' w' h => hQ a' w' (.of h)
  intro cc
  induction cc with
  | seq x y ihx ihy =>
    intro c S T a w cx T' H' Q hok hx hT hW hn hQ
    cases c <;> try (simp [okCodeM, okCode] at hok; done)
    rename_i cx1 cy1
    simp only [okCodeM, Bool.and_eq_true] at hok
    simp only [evCode] at hx
    refine wp_seq ?_
    cases he : evCode call (fun body => iter body fuel) x (T, S.H) with
    | none => simp [he] at hx
    | some r =>
      obtain ⟨e1, T1, H1⟩ := r
      refine ihx cx1 S T a w e1 T1 H1 _ hok.1 he hT hW hn fun a1 w1 hend => ?_
      obtain ⟨S1, g1, g2, g3, g4, g5, g6, g7⟩ := hend
      cases e1 with
      | normal =>
        simp only [he] at hx
        show cy1.wp P Q a1 w1
        subst g1
        exact ihy cy1 S1 T1 a1 w1 cx T' H' Q hok.2 hx g2 g3 (by rw [g7]; exact hn) fun a' w' h => hQ a' w' (EndsM.trans g4 g5 g6 g7 h)
      | exit id =>
        simp only [he, Option.some.injEq, Prod.mk.injEq] at hx
        obtain ⟨rfl, rfl, rfl⟩ := hx
        exact hQ a1 w1 ⟨S1, g1, g2, g3, g4, g5, g6, g7⟩
      | ret =>
        simp only [he, Option.some.injEq, Prod.mk.injEq] at hx
        obtain ⟨rfl, rfl, rfl⟩ := hx
        exact hQ a1 w1 ⟨S1, g1, g2, g3, g4, g5, g6, g7⟩
  | cond co x y ihx ihy =>
    intro c S T a w cx T' H' Q hok hx hT hW hn hQ
    cases c <;> try (simp [okCodeM, okCode] at hok; done)
    rename_i c0 cx1 cy1
    simp only [okCodeM, Bool.and_eq_true] at hok
    simp only [evCode] at hx
    split at hx
    · rename_i h1
      exact wp_cond_true (rep_bool (opd_rep (hT.rel co.slots) hok.1.1 (fun _ h => h) h1)) (ihx cx1 S T a w cx T' H' Q hok.1.2 hx hT hW hn hQ)
    · rename_i h1
      exact wp_cond_false (rep_bool (opd_rep (hT.rel co.slots) hok.1.1 (fun _ h => h) h1)) (ihy cy1 S T a w cx T' H' Q hok.2 hx hT hW hn hQ)
    · cases hx
  | block id x ihx =>
    intro c S T a w cx T' H' Q hok hx hT hW hn hQ
    cases c <;> try (simp [okCodeM, okCode] at hok; done)
    rename_i id' cx1
    simp only [okCodeM, Bool.and_eq_true, decide_eq_true_eq] at hok
    obtain ⟨rfl, hok⟩ := hok
    simp only [evCode] at hx
    refine wp_block ?_
    cases he : evCode call (fun body => iter body fuel) x (T, S.H) with
    | none => simp [he] at hx
    | some r =>
      obtain ⟨e1, T1, H1⟩ := r
      refine ihx cx1 S T a w e1 T1 H1 _ hok he hT hW hn fun a1 w1 hend => ?_
      cases e1 with
      | normal =>
        simp only [he, Option.some.injEq, Prod.mk.injEq] at hx
        obtain ⟨rfl, rfl, rfl⟩ := hx
        exact hQ a1 w1 hend
      | exit j =>
        simp only [he] at hx
        show Exit.inBlock _ Q (.exit j) a1 w1
        unfold Exit.inBlock
        split at hx
        · rename_i hj
          simp only [Option.some.injEq, Prod.mk.injEq] at hx
          obtain ⟨rfl, rfl, rfl⟩ := hx
          simp only [hj, if_true]
          exact hQ a1 w1 hend
        · rename_i hj
          simp only [Option.some.injEq, Prod.mk.injEq] at hx
          obtain ⟨rfl, rfl, rfl⟩ := hx
          simp only [hj, if_false]
          exact hQ a1 w1 hend
      | ret =>
        simp only [he, Option.some.injEq, Prod.mk.injEq] at hx
        obtain ⟨rfl, rfl, rfl⟩ := hx
        exact hQ a1 w1 hend
  | rfb g t i j d x _ =>
    intro c S T a w cx T' H' Q hok hx hT hW hn hQ
    cases c <;> try (simp [okCodeM, okCode] at hok; done)
    rename_i g0 ps asg body
    cases g0 <;> try (simp [okCodeM, okCode] at hok; done)
    rename_i t'
    simp only [okCodeM, Bool.and_eq_true, decide_eq_true_eq] at hok
    obtain ⟨⟨⟨⟨⟨⟨⟨⟨rfl, rfl⟩, rfl⟩, hasg⟩, hi⟩, hj⟩, hd⟩, hR⟩, hbody⟩ := hok
    simp only [evCode, evRnds] at hx
    split at hx
    · rename_i h p hget
      split at hx
      · rename_i hh
        rw [hh] at hget
        split at hx
        · rename_i zs hzs
          cases hev : evRnd (evCode call (fun body => iter body fuel) x) T i j d p zs zs.zipIdx.reverse S.H with
          | none => rw [hev] at hx; cases hx
          | some HH =>
            rw [hev] at hx
            simp only [Option.map_some, Option.some.injEq, Prod.mk.injEq] at hx
            obtain ⟨rfl, rfl, rfl⟩ := hx
            obtain ⟨fv, hfv, hrf⟩ := hT t' _ hget
            obtain ⟨vs, rfl, hvl, hvr⟩ := rep_fn hrf
            obtain ⟨pv, rfl⟩ : ∃ pv, vs = [pv] := List.length_eq_one_iff.1 hvl.symm
            have hpr := hvr 0 p pv rfl rfl
            obtain ⟨Bs, rfl, hgood⟩ := intsAt_sound hW (.one (.s hpr)) hzs
            refine (wpIn_wide (n := 3)).1 (range_rule (gf := g) (lb := #[.pointer (some Bs)]) (by simp only [Act.eval, Array.getD_eq_getD_getElem?, hfv, Option.getD_some]) hgb.enter
              (fun x : Int × Nat => #[.int .i64 (x.2 : Int), .int .i64 x.1]) (fun _ => rfl) zs.zipIdx.reverse (BackAt Bs zs)
              (fun l J W h1 h2 h3 => by have := hgb.gives Bs zs l J W h1 h2 h3; simpa using this)
              (fun k W => ∃ S1, Ext S S1 ∧ WRel S1 W B ∧ Bel B w W ∧ evRnd (evCode call (fun body => iter body fuel) x) T i j d p zs (zs.zipIdx.reverse.drop k) S1.H = some HH ∧ intsAt S1.H p = some zs)
              ?own ?good ⟨S, .refl S, hW, .refl B w, hev, hzs⟩
              (fun x => ((({ tmps := a.tmps, defers := [] } : Act).put (some i) (.int .i64 (x.2 : Int))).put (some j) (.int .i64 x.1)).put (some d) (.int .i64 x.1)) ?assign ?body ?done)
            case own =>
              rintro k u W W' row ⟨S1, g1, g2, g3, g4, g5⟩ hg hr
              obtain ⟨e1, e2⟩ := keeps_own hW.base g2 g3 hg hr
              exact ⟨S1, g1, e1, e2, g4, g5⟩
            case good =>
              rintro k W ⟨S1, g1, g2, g3, g4, g5⟩
              obtain ⟨Bs', e, hG⟩ := intsAt_sound g2 (.one (.s (hpr.ext g1))) g5
              cases e
              exact hG
            case assign =>
              intro l x W K hK
              have e0 : ((#[i, j] : Array Tmp).zip #[Value.int .i64 (x.2 : Int), .int .i64 x.1]).foldl (fun t (p, v) => t.setIfInBounds p v) a.tmps = (a.tmps.setIfInBounds i (.int .i64 (x.2 : Int))).setIfInBounds j (.int .i64 x.1) := by simp
              simp only [e0]
              refine asg_in hasg (v := .int .i64 x.1) ?_ hK
              have : j < (a.tmps.setIfInBounds i (.int .i64 (x.2 : Int))).size := by simp; omega
              show ((a.tmps.setIfInBounds i (.int .i64 (x.2 : Int))).setIfInBounds j (.int .i64 x.1))[j]? = _
              rw [Array.getElem?_setIfInBounds_self_of_lt this]
            case body =>
              rintro l k y W hy ⟨S1, g1, g2, g3, g4, g5⟩
              have hdrop : zs.zipIdx.reverse.drop k = y :: zs.zipIdx.reverse.drop (k + 1) := by
                obtain ⟨hlt, hv⟩ := List.getElem?_eq_some_iff.1 hy
                rw [List.drop_eq_getElem_cons hlt, hv]
              rw [hdrop] at g4
              obtain ⟨z, m⟩ := y
              simp only [evRnd] at g4
              split at g4
              · rename_i st hst
                split at g4
                · rename_i hin
                  obtain ⟨T1, H1⟩ := st
                  refine codeR_sound hcall l 1 x body S1 _ _ W .normal T1 H1 _ hR hbody hst ?_ g2 (by simp [Act.put]; omega) ?_
                  · have e0 : TAll S1 T ({ tmps := a.tmps, defers := [] } : Act).tmps := hT.ext g1
                    exact (((e0.put (.one (.s (.frz (.int _ _)))) (fun q hq => by cases hq; show i < a.tmps.size; omega)).put (.one (.s (.frz (.int _ _)))) (fun q hq => by cases hq; rw [put_size]; show j < a.tmps.size; omega)).put (.one (.s (.frz (.int _ _)))) (fun q hq => by cases hq; rw [put_size, put_size]; show d < a.tmps.size; omega))
                  · rintro a' w' ⟨S2, q1, q2, q3, q4, q5, _, _⟩
                    subst q1
                    exact ⟨rfl, ⟨q5.size, fun k' o ho hc => q5.others k' o ho (notCells_of hc)⟩, S2, g1.trans q4, q3, g3.trans q5, g4, hin⟩
                · cases g4
              · cases g4
            case done =>
              rintro D W hD ⟨S1, g1, g2, g3, g4, g5⟩ hdf
              rw [List.drop_length] at g4
              simp only [evRnd, Option.some.injEq] at g4
              subst g4
              exact hQ _ _ ⟨S1, rfl, hT.ext g1, g2, g1, g3, ⟨[D], rfl, by simp, fun D' hD' => by simp at hD'; subst hD'; exact ⟨hD, hdf⟩⟩, rfl⟩
        · cases hx
      · cases hx
    · cases hx
  | _ =>
    intro c S T a w cx T' H' Q hok hx hT hW hn hQ
    exact leaf _ c S T a w cx T' H' Q (by cases c <;> first | exact hok | (rename_i f _ _ _; cases f <;> exact hok)) hx hT hW hn hQ

/-- the marks are taken away at the end -/
theorem leaves_marks {P : Program} {S : Sta} {fn : Func} {tmps : Array Value} {R : Ending → World → Prop} {w0 : World} {B : Nat} (hB : B ≤ w0.heap.size) (hR : ∀ w, WRel S w B → Bel B w0 w → ∃ v, (results fn tmps).run P w = .ok v w ∧ R (.returned v) w) :
    ∀ (ds : List Nat) (w : World), ds.Nodup → (∀ D ∈ ds, w0.heap.size ≤ D ∧ w.heap[D]? = some (.deferred (some []))) → WRel S w B → Bel B w0 w → LeavesInM Fence.wide 3 P fn tmps R (ds.map markD) .returning w
  | [], w, _, _, hW, hb => hR w hW hb
  | D :: ds, w, hn, hd, hW, hb => by
    obtain ⟨h1, h2⟩ := hd D (by simp)
    obtain ⟨hn1, hn2⟩ := List.nodup_cons.1 hn
    obtain ⟨e1, e2⟩ := keeps_own hB hW hb (grownBy_putObj' w D (.deferred none)) (fun r e => by cases e; exact ⟨h1, _, h2, rfl⟩)
    refine ⟨by simp, .inl ⟨D, _, rfl, run_takeDeferred h2, leaves_marks hB hR ds _ hn2 (fun D' hD' => ?_) e1 e2⟩⟩
    obtain ⟨q1, q2⟩ := hd D' (by simp [hD'])
    exact ⟨q1, (World.putObj_heap_other (fun e => by rw [e] at hD'; exact hn1 hD')).trans q2⟩
def okFnM (P : Program) (f gb : Nat) (c : CFn) : Bool :=
  match P.funcs[f]? with
  | some fn => !(fn.name == "runtime.NumGoroutine") && (match fn.body with | some code => okCodeM P c.ntmps gb code c.body | none => false) && decide (c.ntmps ≤ fn.ntmps) && okRes P fn.results.toList c.res && !c.closed && !c.split
  | none => false
theorem fnM_sound {P : Program} (hmix : P.follows .mixedOrders = true) {f gb : Nat} {c : CFn} (hgb : BackOk P gb) (hok : okFnM P f gb c = true) : FnOk P f c := by
  unfold okFnM at hok
  split at hok
  case h_2 => cases hok
  rename_i fn hf
  simp only [Bool.and_eq_true, decide_eq_true_eq, Bool.not_eq_true'] at hok
  obtain ⟨⟨⟨⟨⟨h1, h2⟩, h3⟩, h4⟩, h5⟩, h6⟩ := hok
  split at h2
  case h_2 => cases h2
  rename_i code hb
  refine ⟨⟨fn, hf, by rw [hb]; rfl, h1⟩, fun call hcall fuel args S r H' hx w B vs hW hl hr => ?_⟩
  unfold evFn at hx
  rw [if_neg (by rw [h5]; simp), if_neg (by rw [h6]; simp)] at hx
  refine callsIn_wide.1 (callsIn_of_wp_marks (n := 3) hf hb trivial (wpIn_wide.2 ?_) rfl)
  have hT : TAll S (argEnv 0 args) (vs.toArray ++ Array.replicate (fn.ntmps - vs.toArray.size) undef) := by
    intro t x hx
    rw [argEnv_get, if_pos (Nat.zero_le _), Nat.sub_zero] at hx
    have ht := (List.getElem?_eq_some_iff.1 hx).1
    have ht' : t < vs.length := by omega
    exact ⟨vs[t], by rw [Array.getElem?_append_left (by simpa using ht')]; simp [ht'], hr t x _ hx (List.getElem?_eq_getElem ht')⟩
  have hsize : c.ntmps ≤ (vs.toArray ++ Array.replicate (fn.ntmps - vs.toArray.size) undef).size := by simp; omega
  have fin : ∀ (T' : Env) (H1 : Heap) (a' : Act) (w' : World) (us : List AV), evRess T' H1 c.res = some us → r = packRes us → H' = H1 →
      EndsM S w B { tmps := vs.toArray ++ Array.replicate (fn.ntmps - vs.toArray.size) undef, defers := [] } T' H1 a' w' →
      LeavesInM Fence.wide 3 P fn a'.tmps (fun e w' => ∃ v' S', e = .returned v' ∧ S'.H = H' ∧ RepV S' r v' ∧ WRel S' w' B ∧ Ext S S' ∧ Bel B w w') a'.defers .returning w' := by
    rintro T' H1 a' w' us hus rfl rfl ⟨S', g1, g2, g3, g4, g5, ⟨ds, g6, g8, g9⟩, g7⟩
    subst g1
    rw [g6, List.append_nil]
    refine leaves_marks hW.base (fun w2 hW2 hb2 => ?_) ds w' g8 g9 g3 g5
    obtain ⟨zs, e1, e2, e3⟩ := res_sound hW2 g2 fn.results.toList c.res us h4 hus
    refine ⟨if h : zs.toArray.size = 1 then zs.toArray[0] else .tuple zs.toArray, ?_, _, S', rfl, rfl, ?_, hW2, g4, hb2⟩
    · rw [results_eq, Sem.run_bind, Array.mapM_eq_mapM_toList]
      simp only [Sem.run_map]
      rw [e1]
      simp
    · by_cases h : zs.length = 1
      · obtain ⟨z, rfl⟩ := List.length_eq_one_iff.1 h
        obtain ⟨u, rfl⟩ := List.length_eq_one_iff.1 (e2.trans h)
        simp only [packRes, List.size_toArray, List.length_cons, List.length_nil, Nat.zero_add, dif_pos]
        exact .one (e3 0 u z rfl rfl)
      · rw [dif_neg (by simpa using h)]
        have : packRes us = .tup us := by
          cases us with
          | nil => rfl
          | cons u us =>
            cases us with
            | nil => simp at e2; omega
            | cons => rfl
        rw [this]
        exact .tup _ _ e2 e3
  unfold evBody at hx
  split at hx
  · rename_i T' H1 he
    cases hus : evRess T' H1 c.res with
    | none => simp [hus] at hx
    | some us =>
      simp only [hus, Option.map_some, Option.some.injEq, Prod.mk.injEq] at hx
      exact codeM_sound hmix hcall (fuel := fuel) hgb c.body code S _ _ w .normal T' H1 _ h2 he hT hW hsize fun a' w' h => fin T' H1 a' w' us hus hx.1.symm hx.2.symm h
  · rename_i T' H1 he
    cases hus : evRess T' H1 c.res with
    | none => simp [hus] at hx
    | some us =>
      simp only [hus, Option.map_some, Option.some.injEq, Prod.mk.injEq] at hx
      exact codeM_sound hmix hcall (fuel := fuel) hgb c.body code S _ _ w .ret T' H1 _ h2 he hT hW hsize fun a' w' h => fin T' H1 a' w' us hus hx.1.symm hx.2.symm h
  · cases hx
end Go.Proofs.Ytbchmbddcdionaa.Ev
