/- Operations in order, code, functions: the evaluator is sound (regions that draw their order are held by EvL). -/
import Derived.Test.YtbdpceigmnpoaaaGreatDoorEvJ
import Derived.Orders
set_option linter.unusedSimpArgs false
set_option linter.unusedVariables false
namespace Go.Proofs.YtbdpceigmnpoaaaGreatDoor.Ev
open Go.RowKit

/-- what is known of all slots -/
def TAll (S : Sta) (T : Env) (tmps : Array Value) : Prop := ∀ t x, get T t = some x → ∃ v, tmps[t]? = some v ∧ RepV S x v
theorem TAll.rel {S : Sta} {T : Env} {tmps : Array Value} (h : TAll S T tmps) (ss : List Nat) : TRel S T tmps ss := fun t _ => h t
theorem TAll.ext {S S' : Sta} (hE : Ext S S') {T : Env} {tmps : Array Value} (h : TAll S T tmps) : TAll S' T tmps := fun t x hx => let ⟨v, hv, hr⟩ := h t x hx; ⟨v, hv, hr.ext hE⟩

/-- a call answers what the evaluator says -/
def CallOk (P : Program) (call : Nat → List AV → Heap → Option (AV × Heap)) : Prop :=
  ∀ (g : Nat) (args : List AV) (H : Heap) (r : AV) (H' : Heap), call g args H = some (r, H') → (∃ fn, P.funcs[g]? = some fn ∧ fn.body.isSome = true ∧ (fn.name == "runtime.NumGoroutine") = false) ∧
    ∀ (S : Sta) (w : World) (B : Nat) (vs : List Value), S.H = H → WRel S w B → args.length = vs.length → (∀ (i : Nat) (x : AV) (v : Value), args[i]? = some x → vs[i]? = some v → RepV S x v) →
      Calls P g vs.toArray w fun e w' => ∃ v S', e = .returned v ∧ S'.H = H' ∧ RepV S' r v ∧ WRel S' w' B ∧ Ext S S' ∧ Bel B w w'

def okCall (op : Op) (f : COpd) (args : List COpd) : Bool :=
  match op with
  | .call c => match c.callee with
    | .value f' => okOpd f' f && okOpds c.args.toList args
    | _ => false
  | _ => false
def okCO (P : Program) (op : Op) : CO → Bool
  | .box ty sz x => okBox P op ty sz x
  | .bslice ty sz els ps => okBslice P op ty sz els ps
  | .flst ty sz els ps => okBslice P op ty sz els ps
  | .store sz x y => okStore P op sz x y
  | .mks ty sz bytes z x y => okMks P op ty sz bytes z x y
  | .call f args _ => okCall op f args
  | .qcall f args => okCall op f args
  | .app ty sz bytes _ x y => okApp P op ty sz bytes x y
  | .fapp ty sz bytes x y => okApp P op ty sz bytes x y
  | .copy sz x y => okCopy P op sz x y
  | .clear sz z x => okClear P op sz z x
  | co => okPure P op co

section ops
variable {P : Program} {S : Sta} {w : World} {B : Nat} {T : Env} {a : Act} {o : Oper}

theorem Does.wp {x : AV} {H' : Heap} (h : Does P S w B a o x H') {K : Act → World → Prop} {Q : Exit → Act → World → Prop}
    (hK : ∀ v w' S', S'.H = H' → RepV S' x v → WRel S' w' B → Ext S S' → Bel B w w' → K (a.put o.dst v) w') : o.wp P a w K Q := by
  obtain ⟨v, w', S', hrun, h1, h2, h3, h4, h5⟩ := h
  unfold Oper.wp
  rcases hrun with hrun | ⟨hrun, rfl⟩
  · rw [hrun]; exact hK _ _ S' h1 h2 h3 h4 h5
  · rw [hrun]; exact hK _ _ S' h1 h2 h3 h4 h5
theorem Gives.does {x : AV} (h : Gives P S w a o x) (hW : WRel S w B) : Does P S w B a o x S.H := by
  obtain ⟨v, h1, h2⟩ := h
  exact ⟨v, w, S, .inl h1, rfl, h2, hW, Ext.refl S, Bel.refl B w⟩

theorem fz_flat1 (H : Heap) (n : Nat) {a : AV} (h : a.flat = true) : fz H (n + 1) a = some (a, []) := by
  cases a <;> first | rfl | (simp [AV.flat] at h)
theorem fz_flatC (H : Heap) (n : Nat) : ∀ {l : List AV}, l.all AV.flat = true → fzCells (fz H (n + 1)) l = some (l, [])
  | [], _ => rfl
  | a :: l, h => by
    simp only [List.all_cons, Bool.and_eq_true] at h
    simp only [fzCells, fz_flat1 H n h.1, fz_flatC H n h.2, List.append_nil]
theorem fz_flatR (H : Heap) (n : Nat) : ∀ {l : List (List AV)}, l.all (fun r => r.all AV.flat) = true → fzRows (fz H (n + 1)) l = some (l, [])
  | [], _ => rfl
  | a :: l, h => by
    simp only [List.all_cons, Bool.and_eq_true] at h
    simp only [fzRows, fz_flatC H n h.1, fz_flatR H n (l := l) h.2, List.append_nil]
theorem fz_flat (H : Heap) (ty sz : Nat) (e : List AV) (es : List (List AV)) (h : (e :: es).all (fun r => r.all AV.flat) = true) :
    fzRes (H ++ [(⟨0, true, ty, sz, e :: es⟩ : Blk)]) (.ref H.length 0 sz 0 (es.length + 1)) = some (.lst (e :: es), [H.length]) := by
  have hb : curBlk (H ++ [(⟨0, true, ty, sz, e :: es⟩ : Blk)]) H.length 0 sz = some ⟨0, true, ty, sz, e :: es⟩ := by simp [curBlk]
  show (match curBlk (H ++ [(⟨0, true, ty, sz, e :: es⟩ : Blk)]) H.length 0 sz with
    | some k => match fzRows (fz (H ++ [(⟨0, true, ty, sz, e :: es⟩ : Blk)]) (6 + 1)) ((k.els.drop 0).take (es.length + 1)) with
      | some (l, ids) => some (AV.lst l, H.length :: ids)
      | none => none
    | none => none) = _
  rw [hb]
  have ht : (List.drop 0 (e :: es)).take (es.length + 1) = e :: es := by simp
  show (match fzRows (fz (H ++ [(⟨0, true, ty, sz, e :: es⟩ : Blk)]) (6 + 1)) ((List.drop 0 (e :: es)).take (es.length + 1)) with
      | some (l, ids) => some (AV.lst l, H.length :: ids)
      | none => none) = _
  rw [ht, fz_flatR _ 6 h]
theorem gc_flat (H : Heap) (l : List (List AV)) (k : Blk) : gc H (.lst l) (kill (H ++ [k]) [H.length]) = H := by
  have hk : (kill (H ++ [k]) [H.length]).take H.length = H := by simp [kill]
  unfold gc
  rw [hk, if_pos ⟨rfl, heq_refl H⟩]

def CO.isQ : CO → Bool
  | .qcall .. => true
  | .flst .. => true
  | .fapp .. => true
  | _ => false
theorem op_sound0 {call : Nat → List AV → Heap → Option (AV × Heap)} (hcall : CallOk P call) (hW : WRel S w B) {co : CO} (hq : co.isQ = false) (hT : TRel S T a.tmps co.slots) (ho : okCO P o.op co = true) {x : AV} {H' : Heap}
    (hx : evOp call T S.H co = some (x, H')) {K : Act → World → Prop} {Q : Exit → Act → World → Prop}
    (hK : ∀ v w' S', S'.H = H' → RepV S' x v → WRel S' w' B → Ext S S' → Bel B w w' → K (a.put o.dst v) w') : o.wp P a w K Q := by
  have pureCase : okPure P o.op co = true → (evPure T S.H co).map (fun v => (v, S.H)) = some (x, H') → o.wp P a w K Q := by
    intro h1 h2
    cases he : evPure T S.H co with
    | none => simp [he] at h2
    | some y =>
      simp only [he, Option.map_some, Option.some.injEq, Prod.mk.injEq] at h2
      obtain ⟨rfl, rfl⟩ := h2
      exact ((pure_sound hW hT h1 he).does hW).wp hK
  cases co with
  | box ty sz y =>
    simp only [evOp] at hx
    split at hx
    · split at hx
      · rename_i hc
        cases hx
        exact (box_sound hW hT ho (fun _ h => h) ‹_› hc.1 hc.2).wp hK
      · cases hx
    · cases hx
  | bslice ty sz els ps =>
    simp only [evOp] at hx
    split at hx
    · rename_i hf
      cases hx
      exact ((bslice_sound hW hT ho (fun _ h => h) hf).1 rfl).wp hK
    · rename_i e es hf
      cases hx
      exact ((bslice_sound hW hT ho (fun _ h => h) hf).2 e es rfl).wp hK
    · cases hx
  | store sz y z =>
    simp only [evOp] at hx
    split at hx
    · rename_i p v h1 h2
      cases hs : evStore sz S.H v p with
      | none => simp [hs] at hx
      | some H2 =>
        simp only [hs, Option.map_some, Option.some.injEq, Prod.mk.injEq] at hx
        obtain ⟨rfl, rfl⟩ := hx
        exact (store_sound hW hT ho (fun _ h => h) h1 h2 hs).wp hK
    · cases hx
  | mks ty sz bytes z y y' =>
    simp only [evOp] at hx
    split at hx
    · rename_i l c h1 h2
      split at hx
      · rename_i l' c' h3 h4
        have hm := mks_sound (P := P) hW hT ho (fun _ h => h) h1 h2 h3 h4
        split at hx
        · rename_i hc
          cases hx
          exact (hm.1 hc.1 hc.2.1 hc.2.2.1 hc.2.2.2.2).wp hK
        · split at hx
          · rename_i hc
            cases hx
            exact (hm.2 hc.1 hc.2).wp hK
          · cases hx
      · cases hx
    · cases hx
  | app ty sz bytes keep y z =>
    simp only [evOp] at hx
    split at hx
    · split at hx
      · exact (app_sound hW hT ho (fun _ h => h) ‹_› ‹_› ‹_› hx).wp hK
      · cases hx
    · cases hx
  | copy sz y z =>
    simp only [evOp] at hx
    split at hx
    · split at hx
      · exact (copy_sound hW hT ho (fun _ h => h) ‹_› ‹_› ‹_› hx).wp hK
      · cases hx
    · cases hx
  | clear sz z y =>
    simp only [evOp] at hx
    split at hx
    · rename_i p h1
      split at hx
      · cases hs : evClear sz z S.H p with
        | none => simp [hs] at hx
        | some H2 =>
          simp only [hs, Option.map_some, Option.some.injEq, Prod.mk.injEq] at hx
          obtain ⟨rfl, rfl⟩ := hx
          exact (clear_sound hW hT ho (fun _ h => h) h1 hs).wp hK
      · cases hx
    · cases hx
  | qcall f args => cases hq
  | flst ty sz els ps => cases hq
  | fapp ty sz bytes y z => cases hq
  | call f args frz =>
    simp only [evOp] at hx
    split at hx
    · rename_i g caps vs h1 h2
      split at hx
      · rename_i r H1 h3
        obtain ⟨⟨fn, hf, hb, hn⟩, hcalls⟩ := hcall g (capArgs caps vs) S.H r H1 h3
        simp only [okCO] at ho
        unfold okCall at ho
        split at ho
        · rename_i c he
          split at ho
          · rename_i f' hc
            simp only [Bool.and_eq_true] at ho
            obtain ⟨hl, hr⟩ := opds_rep hT ho.2 (fun t ht => by simp only [CO.slots, List.mem_append]; exact .inr ht) h2
            have hll : (c.args.toList.map a.eval).length = vs.length := by rw [List.length_map]; exact hl.symm
            have hb' : ¬ (fn.body = none) := by intro h0; rw [h0] at hb; simp at hb
            have hn' : ¬ (fn.name = "runtime.NumGoroutine") := by simpa using hn
            obtain ⟨us, hul, hrep, hrun⟩ : ∃ us : List Value, us.length = (capArgs caps vs).length ∧ (∀ (i : Nat) (x : AV) (v : Value), (capArgs caps vs)[i]? = some x → us[i]? = some v → RepV S x v) ∧ (execOp a.eval o).run P w = .ok (.enter g us.toArray) w := by
              rcases rep_fn (opd_rep hT ho.1 (fun t ht => by simp [CO.slots, ht]) h1) with ⟨us, hu, hul⟩ | ⟨cs, us, rfl, hu, hul⟩
              · have hcap : capArgs caps vs = vs ++ caps := by
                  unfold capArgs
                  split
                  · match us, hul with
                    | [], hul => cases hul.1
                    | v0 :: _, hul => cases hul.2 0 (.tup []) v0 rfl rfl with | frz h => cases h
                  · rfl
                rw [hcap]
                refine ⟨c.args.toList.map a.eval ++ us, by rw [List.length_append, List.length_append, hll, hul.1], fun i x v hx hv => ?_, ?_⟩
                · by_cases hi : i < vs.length
                  · rw [List.getElem?_append_left hi] at hx
                    rw [List.getElem?_append_left (by omega)] at hv
                    exact hr i x v hx hv
                  · rw [List.getElem?_append_right (by omega)] at hx
                    rw [List.getElem?_append_right (by omega), hll] at hv
                    exact .one (.s (hul.2 _ x v hx hv))
                · have hargs : (c.args.toList.map a.eval ++ us).toArray = c.args.map a.eval ++ us.toArray := Array.ext' (by simp)
                  rw [hargs]
                  simp [execOp, he, resolve, hc, hu, Deferred.ofValue, invoke, callFunc, hf, hn', hb']
              · refine ⟨.agg us.toArray :: c.args.toList.map a.eval, by simp only [capArgs, List.length_cons, hll], fun i x v hx hv => ?_, ?_⟩
                · cases i with
                  | zero =>
                    simp only [capArgs, List.getElem?_cons_zero, Option.some.injEq] at hx hv
                    subst hx; subst hv
                    exact .one (.agg _ _ hul)
                  | succ i =>
                    simp only [capArgs, List.getElem?_cons_succ] at hx hv
                    exact hr i x v hx hv
                · have hargs : (Value.agg us.toArray :: c.args.toList.map a.eval).toArray = #[.agg us.toArray] ++ c.args.map a.eval := Array.ext' (by simp)
                  rw [hargs]
                  simp [execOp, he, resolve, hc, hu, Deferred.ofValue, invoke, callFunc, hf, hn', hb']
            have hC := hcalls S w B us rfl hW hul.symm hrep
            unfold Oper.wp
            rw [hrun]
            simp only [Oper.upon]
            refine hC.mono fun e w' he' => ?_
            obtain ⟨v, S1, rfl, hS1, hr1, hW1, hE1, hB1⟩ := he'
            simp only []
            subst hS1
            split at hx
            · split at hx
              · rename_i r' ids hfz
                cases hx
                obtain ⟨S2, hS2, hr2, hW2, hE2⟩ := freeze_sound hW1 hr1 hfz
                obtain ⟨S3, hS3, hr3, hW3, hE3⟩ := gc_sound hW hW2 (hE1.trans hE2) hr2
                exact hK v w' S3 (by rw [hS3, hS2]) hr3 hW3 hE3 hB1
              · cases hx
            · cases hx
              obtain ⟨S3, hS3, hr3, hW3, hE3⟩ := gc_sound hW hW1 hE1 hr1
              exact hK v w' S3 hS3 hr3 hW3 hE3 hB1
          · simp at ho
        · simp at ho
      · cases hx
    · cases hx
  | mv y => exact pureCase ho hx
  | pick c y z => exact pureCase ho hx
  | build z ps => exact pureCase ho hx
  | load ag sz y => exact pureCase ho hx
  | nilck y => exact pureCase ho hx
  | bin op y z => exact pureCase ho hx
  | eqb n y z => exact pureCase ho hx
  | eqs n ks y z => exact pureCase ho hx
  | eqn n k y z => exact pureCase ho hx
  | un u y => exact pureCase ho hx
  | convI k y => exact pureCase ho hx
  | strid y => exact pureCase ho hx
  | b2s y => exact pureCase ho hx
  | mkfn f cs => exact pureCase ho hx
  | mkbnd f y => exact pureCase ho hx
  | slc sz y lo hi mx => exact pureCase ho hx
  | slcs y lo hi => exact pureCase ho hx
  | faddr off y => exact pureCase ho hx
  | field ag off sz y => exact pureCase ho hx
  | iaddr sz y i => exact pureCase ho hx
  | iaddrA esz len y i => exact pureCase ho hx
  | idx y i => exact pureCase ho hx
  | idxA ag esz len y i => exact pureCase ho hx
  | extract y i => exact pureCase ho hx
  | len b y => exact pureCase ho hx
  | mm b y ys => exact pureCase ho hx
theorem op_sound {call : Nat → List AV → Heap → Option (AV × Heap)} (hcall : CallOk P call) (hW : WRel S w B) {co : CO} (hT : TRel S T a.tmps co.slots) (ho : okCO P o.op co = true) {x : AV} {H' : Heap}
    (hx : evOp call T S.H co = some (x, H')) {K : Act → World → Prop} {Q : Exit → Act → World → Prop}
    (hK : ∀ v w' S', S'.H = H' → RepV S' x v → WRel S' w' B → Ext S S' → Bel B w w' → K (a.put o.dst v) w') : o.wp P a w K Q := by
  cases hq : co.isQ with
  | false => exact op_sound0 hcall hW hq hT ho hx hK
  | true =>
    cases co with
    | qcall f args =>
      simp only [evOp] at hx
      split at hx
      · rename_i g caps vs h1 h2
        split at hx
        · rename_i r H1 h3
          split at hx
          · rename_i r' ids h4
            split at hx
            · rename_i h5
              cases hx
              exact op_sound0 (co := .call f args true) hcall hW rfl hT ho (by simp only [evOp, h1, h2, h3, h4, if_true]; rw [eq_of_heq h5]) hK
            · cases hx
          · cases hx
        · cases hx
      · cases hx
    | flst ty sz els ps =>
      simp only [evOp, evPure] at hx
      cases hf : fillEls sz T els ps with
      | none => simp [hf, flstV] at hx
      | some ds =>
        cases ds with
        | nil =>
          simp only [hf, flstV, Option.map_some, Option.some.injEq, Prod.mk.injEq] at hx
          obtain ⟨rfl, rfl⟩ := hx
          exact ((bslice_sound hW hT ho (fun _ h => h) hf).1 rfl).wp hK
        | cons e es =>
          simp only [hf, flstV] at hx
          split at hx
          · rename_i hfl
            simp only [Option.map_some, Option.some.injEq, Prod.mk.injEq] at hx
            obtain ⟨rfl, rfl⟩ := hx
            refine ((bslice_sound hW hT ho (fun _ h => h) hf).2 e es rfl).wp fun v w' S1 h1 h2 h3 h4 h5 => ?_
            have hfz : fzRes S1.H (.ref S.H.length 0 sz 0 (es.length + 1)) = some (.lst (e :: es), [S.H.length]) := by
              rw [h1]; exact fz_flat S.H ty sz e es hfl
            obtain ⟨S2, hS2, hr2, hW2, hE2⟩ := freeze_sound h3 h2 hfz
            obtain ⟨S3, hS3, hr3, hW3, hE3⟩ := gc_sound hW hW2 (h4.trans hE2) hr2
            refine hK v w' S3 ?_ hr3 hW3 hE3 h5
            rw [hS3, hS2, h1]
            exact gc_flat S.H _ _
          · cases hx
    | fapp ty sz bytes y z =>
      simp only [evOp, evPure] at hx
      cases h1 : evOpd T y with
      | none => simp [h1] at hx
      | some p =>
        cases h2 : evOpd T z with
        | none => simp [h1, h2] at hx
        | some q =>
          cases h3 : srcRows S.H q with
          | none => simp [h1, h2, h3] at hx
          | some src =>
            simp only [h1, h2, h3] at hx
            cases p with
            | nil0 =>
              simp only [fappV] at hx
              split at hx
              · rename_i hemp
                simp only [Option.map_some, Option.some.injEq, Prod.mk.injEq] at hx
                obtain ⟨rfl, rfl⟩ := hx
                refine (app_sound (keep := false) hW hT ho (fun _ h => h) h1 h2 h3 (x := .nil0) (H' := S.H) (by simp [evApp, hemp, evLen])).wp fun v w' S1 h1 h2 h3 h4 h5 => hK v w' S1 h1 ?_ h3 h4 h5
                obtain ⟨ad, rfl⟩ := rep_nil0 h2
                exact .one (.s (.frz (.lst0 _ _ fun _ => rfl)))
              · rename_i hemp
                split at hx
                · rename_i hc
                  obtain ⟨c1, c2, c3, c4⟩ := hc
                  simp only [Option.map_some, Option.some.injEq, Prod.mk.injEq] at hx
                  obtain ⟨rfl, rfl⟩ := hx
                  obtain ⟨e, es, rfl⟩ : ∃ e es, src = e :: es := by cases src with
                    | nil => simp at hemp
                    | cons e es => exact ⟨e, es, rfl⟩
                  refine (app_sound (keep := false) hW hT ho (fun _ h => h) h1 h2 h3 (x := .ref S.H.length 0 sz 0 (es.length + 1)) (H' := S.H ++ [⟨0, true, ty, sz, e :: es⟩]) (by simp only [evApp, List.isEmpty_cons, Bool.false_eq_true, if_false, c1, Bool.true_eq_false]; rw [if_pos ⟨c2, c3⟩]; rfl)).wp fun v w' S1 h1 h2 h3 h4 h5 => ?_
                  have hfz : fzRes S1.H (.ref S.H.length 0 sz 0 (es.length + 1)) = some (.lst (e :: es), [S.H.length]) := by
                    rw [h1]; exact fz_flat S.H ty sz e es c4
                  obtain ⟨S2, hS2, hr2, hW2, hE2⟩ := freeze_sound h3 h2 hfz
                  obtain ⟨S3, hS3, hr3, hW3, hE3⟩ := gc_sound hW hW2 (h4.trans hE2) hr2
                  refine hK v w' S3 ?_ hr3 hW3 hE3 h5
                  rw [hS3, hS2, h1]
                  exact gc_flat S.H _ _
                · cases hx
            | _ => simp [fappV] at hx
    | _ => cases hq
end ops

/-! slots written -/
theorem get_put (T : Env) (d : Option Nat) (v : AV) (t : Nat) : get (put T d v) t = if d = some t then some v else get T t := by
  cases d with
  | none => simp [put]
  | some d =>
    simp only [put, get, Option.some.injEq]
theorem put_size (a : Act) (d : Option Tmp) (v : Value) : (a.put d v).tmps.size = a.tmps.size := by
  cases d <;> simp [Act.put]
theorem put_defers' (a : Act) (d : Option Tmp) (v : Value) : (a.put d v).defers = a.defers := by
  cases d <;> rfl
theorem put_get (a : Act) (d : Option Tmp) (v : Value) (t : Nat) (hd : ∀ i, d = some i → i < a.tmps.size) : (a.put d v).tmps[t]? = if d = some t then some v else a.tmps[t]? := by
  cases d with
  | none => simp [Act.put]
  | some d =>
    have := hd d rfl
    simp only [Act.put, Array.getElem?_setIfInBounds, Option.some.injEq]
    by_cases h : d = t
    · subst h; simp [this]
    · simp [h]
theorem TAll.put {S : Sta} {T : Env} {a : Act} {d : Option Nat} {x : AV} {v : Value} (h : TAll S T a.tmps) (hr : RepV S x v) (hd : ∀ i, d = some i → i < a.tmps.size) : TAll S (put T d x) (a.put d v).tmps := by
  intro t y hy
  rw [get_put] at hy
  rw [put_get a d v t hd]
  split at hy
  · rename_i hdt
    cases hy
    exact ⟨v, by simp [hdt], hr⟩
  · rename_i hdt
    obtain ⟨u, hu, hru⟩ := h t y hy
    exact ⟨u, by simp [hdt, hu], hru⟩
theorem rep_undef (S : Sta) : RepV S (.tup []) undef := .tup [] [] rfl (by simp)
theorem keepEnv_get (T : Env) : ∀ (m : List Nat) (t : Nat) (x : AV), get (keepEnv T m) t = some x → get T t = some x
  | [], t, x, h => by simp [keepEnv, get] at h
  | i :: m, t, x, h => by
    simp only [keepEnv] at h
    cases hi : get T i with
    | none => simp only [hi] at h; exact keepEnv_get T m t x h
    | some v =>
      simp only [hi, get] at h
      split at h
      · rename_i hit; subst hit; rw [hi]; exact h
      · exact keepEnv_get T m t x h
theorem TAll.keep {S : Sta} {T : Env} {tmps : Array Value} (h : TAll S T tmps) (m : List Nat) : TAll S (keepEnv T m) tmps := fun t x hx => h t x (keepEnv_get T m t x hx)

def okGuard (ops : Array Oper) : Option (Nat × Bool) → Option (Nat × Bool) → Bool
  | none, none => true
  | some (j, b), some (s, b') => decide ((ops[j]?).bind (·.dst) = some s) && b == b'
  | _, _ => false
theorem guard_sound {S : Sta} {T : Env} {a : Act} {ops : Array Oper} {o : Oper} {g : Option (Nat × Bool)} (ho : okGuard ops o.guard g = true) (hT : ∀ i b, g = some (i, b) → ∀ x, get T i = some x → ∃ v, a.tmps[i]? = some v ∧ RepV S x v) {r : Bool} (hr : evGuard T g = some r) :
    Region.wanted o (yielded ops a.tmps) = r := by
  unfold okGuard at ho
  split at ho
  · rename_i h1
    simp [evGuard] at hr
    subst hr
    unfold Region.wanted
    rw [h1]
  · rename_i j b s b' h1
    simp only [Bool.and_eq_true, decide_eq_true_eq, beq_iff_eq] at ho
    obtain ⟨h2, rfl⟩ := ho
    unfold Region.wanted
    rw [h1]
    simp only [yielded, h2, Option.bind_some]
    simp only [evGuard] at hr
    split at hr
    · rename_i c hg
      cases hr
      obtain ⟨v, hv, hrv⟩ := hT s b rfl _ hg
      rw [rep_bool hrv] at hv
      rw [hv]
      cases c <;> cases b <;> rfl
    · rename_i hg
      cases hr
      obtain ⟨v, hv, hrv⟩ := hT s b rfl _ hg
      obtain ⟨us, rfl, _⟩ := rep_tup hrv
      rw [hv]
      simp
    · cases hr
  · simp at ho

def okCOp (P : Program) (n : Nat) (ops : Array Oper) (o : Oper) (c : COp) : Bool :=
  decide (o.dst = c.d) && (match c.d with | some d => decide (d < n) | none => true) && okGuard ops o.guard c.g && okCO P o.op c.o
def okCOps (P : Program) (n : Nat) (ops : Array Oper) : List Oper → List COp → Bool
  | [], [] => true
  | o :: os, c :: cs => okCOp P n ops o c && okCOps P n ops os cs
  | _, _ => false

/-- where a stretch of code ends -/
def Ends (P : Program) (S : Sta) (w : World) (B : Nat) (a : Act) (T' : Env) (H' : Heap) (a' : Act) (w' : World) : Prop :=
  ∃ S', S'.H = H' ∧ TAll S' T' a'.tmps ∧ WRel S' w' B ∧ Ext S S' ∧ Bel B w w' ∧ a'.defers = a.defers ∧ a'.tmps.size = a.tmps.size
theorem ops_sound {P : Program} {call : Nat → List AV → Heap → Option (AV × Heap)} (hcall : CallOk P call) {n : Nat} {ops : Array Oper} {Q : Exit → Act → World → Prop} {B : Nat} :
    ∀ (os : List Oper) (cs : List COp) (i : Nat) (S : Sta) (T : Env) (a : Act) (w : World) (T' : Env) (H' : Heap), okCOps P n ops os cs = true → (∀ j o, os[j]? = some o → ops[i + j]? = some o) →
      evOps call cs T S.H = some (T', H') → TAll S T a.tmps → WRel S w B → n ≤ a.tmps.size →
      (∀ a' w', Ends P S w B a T' H' a' w' → Q .normal a' w') → wpOps P ops Q (List.range' i os.length) a w
  | [], [], i, S, T, a, w, T', H', _, _, hx, hT, hW, _, hQ => by
    simp only [evOps, Option.some.injEq, Prod.mk.injEq] at hx
    obtain ⟨rfl, rfl⟩ := hx
    simp only [List.length_nil, List.range'_zero, wpOps]
    exact hQ a w ⟨S, rfl, hT, hW, Ext.refl S, Bel.refl B w, rfl, rfl⟩
  | [], _ :: _, _, _, _, _, _, _, _, h, _, _, _, _, _, _ => by simp [okCOps] at h
  | _ :: _, [], _, _, _, _, _, _, _, h, _, _, _, _, _, _ => by simp [okCOps] at h
  | o :: os, c :: cs, i, S, T, a, w, T', H', hok, hops, hx, hT, hW, hn, hQ => by
    simp only [okCOps, Bool.and_eq_true] at hok
    obtain ⟨hc, hok⟩ := hok
    unfold okCOp at hc
    simp only [Bool.and_eq_true, decide_eq_true_eq] at hc
    obtain ⟨⟨⟨hd, hlt⟩, hg⟩, hco⟩ := hc
    have hdlt : ∀ j, c.d = some j → j < a.tmps.size := by
      intro j hj
      rw [hj] at hlt
      simp only [decide_eq_true_eq] at hlt
      omega
    have ho : ops[i]? = some o := hops 0 o rfl
    have hnext : ∀ j o', os[j]? = some o' → ops[i + 1 + j]? = some o' := fun j o' hj => by
      have := hops (j + 1) o' (by simpa using hj)
      rwa [show i + (j + 1) = i + 1 + j by omega] at this
    simp only [List.length_cons, List.range'_succ, wpOps_cons, wpOp, ho]
    simp only [evOps] at hx
    have hgd : ∀ r, evGuard T c.g = some r → Region.wanted o (yielded ops a.tmps) = r := fun r hr => guard_sound (S := S) hg (fun j b _ x hx => hT j x hx) hr
    split at hx
    · rename_i hgt
      rw [hgd true hgt, if_pos rfl]
      split at hx
      · rename_i v H1 hv
        refine .inl (op_sound hcall hW (hT.rel _) hco hv fun u w' S' h1 h2 h3 h4 h5 => ?_)
        rw [hd]
        subst h1
        refine ops_sound hcall os cs (i + 1) S' (put T c.d v) (a.put c.d u) w' T' H' hok hnext hx ((hT.ext h4).put h2 hdlt) h3 (by rw [put_size]; exact hn) fun a' w'' hend => ?_
        obtain ⟨S2, e1, e2, e3, e4, e5, e6, e7⟩ := hend
        exact hQ a' w'' ⟨S2, e1, e2, e3, h4.trans e4, h5.trans e5, by rw [e6, put_defers'], by rw [e7, put_size]⟩
      · cases hx
    · rename_i hgt
      rw [hgd false hgt]
      simp only [Bool.false_eq_true, if_false]
      rw [hd]
      refine ops_sound hcall os cs (i + 1) S (put T c.d (.tup [])) (a.put c.d undef) w T' H' hok hnext hx (hT.put (rep_undef S) hdlt) hW (by rw [put_size]; exact hn) fun a' w'' hend => ?_
      obtain ⟨S2, e1, e2, e3, e4, e5, e6, e7⟩ := hend
      exact hQ a' w'' ⟨S2, e1, e2, e3, e4, e5, by rw [e6, put_defers'], by rw [e7, put_size]⟩
    · cases hx
end Go.Proofs.YtbdpceigmnpoaaaGreatDoor.Ev
