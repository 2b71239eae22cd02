/- A region that draws its order: whatever order comes, the evaluator's answer stands. -/
import Derived.Test.YtbdpceigmnpoaaaGreatDoorEvK
set_option linter.unusedSimpArgs false
set_option linter.unusedVariables false
namespace Go.Proofs.YtbdpceigmnpoaaaGreatDoor.Ev
open Go.RowKit

def CO.eff : CO → Bool
  | .box .. => true
  | .bslice .. => true
  | .store .. => true
  | .mks .. => true
  | .app .. => true
  | .copy .. => true
  | .clear .. => true
  | .call .. => true
  | _ => false
def CO.reads : CO → Bool
  | .load .. => true
  | .slc .. => true
  | .b2s .. => true
  | .fapp .. => true
  | .qcall .. => true
  | _ => false
/-- what an operation answers -/
def evRe (call : Nat → List AV → Heap → Option (AV × Heap)) (T : Env) (H : Heap) (co : CO) : Option AV := (evOp call T H co).map (·.1)
theorem evOp_pure {call : Nat → List AV → Heap → Option (AV × Heap)} {T : Env} {H : Heap} {co : CO} (h : co.eff = false) : evOp call T H co = (evRe call T H co).map fun v => (v, H) := by
  have key : ∀ v H', evOp call T H co = some (v, H') → H' = H := fun v H' he => by
    cases co with
    | qcall f args =>
      simp only [evOp] at he
      split at he
      · split at he
        · split at he
          · split at he
            · cases he; rfl
            · cases he
          · cases he
        · cases he
      · cases he
    | _ => first | (simp [CO.eff] at h; done) | (simp only [evOp, Option.map_eq_some_iff, Prod.mk.injEq] at he; obtain ⟨_, _, _, rfl⟩ := he; rfl)
  unfold evRe
  cases he : evOp call T H co with
  | none => rfl
  | some p =>
    obtain ⟨v, H'⟩ := p
    rw [key v H' he]; rfl
theorem evRe_any {call : Nat → List AV → Heap → Option (AV × Heap)} {T : Env} {H H' : Heap} {co : CO} (he : co.eff = false) (h : co.reads = false) : evRe call T H co = evRe call T H' co := by
  cases co <;> first | (simp [CO.reads] at h; done) | (simp [CO.eff] at he; done) | (simp only [evRe, evOp, Option.map_map]; rfl)

def COp.names (c : COp) : List Nat :=
  c.d.toList ++ (match c.g with | some (s, _) => [s] | none => []) ++ c.o.slots
def Clash (a b : COp) : Prop := (∃ t, a.d = some t ∧ t ∈ b.names) ∨ (∃ t, b.d = some t ∧ t ∈ a.names)
def clash (a b : COp) : Bool :=
  (match a.d with | some t => b.names.contains t | none => false) || (match b.d with | some t => a.names.contains t | none => false)
theorem clash_of {a b : COp} (h : Clash a b) : clash a b = true := by
  unfold clash
  rcases h with ⟨t, h1, h2⟩ | ⟨t, h1, h2⟩
  · rw [h1]; simp [h2]
  · rw [h1]; simp [h2]

/-- the static look at a region that draws: for each pair, the earlier one ahead -/
def okPair (i : Nat) (a : COp) (j : Nat) (b : COp) : Bool :=
  (!clash a b || b.bf.contains i) && (!(a.o.eff && b.o.eff) || b.bf.contains i) &&
  (!(a.o.eff && b.o.reads) || b.bf.contains i || b.alts.contains i) &&
  (!(a.o.reads && b.o.eff) || b.bf.contains i || a.alts.contains (j + 1))
def okOne (ops : Array Oper) (cs : Array COp) (i : Nat) (o : Oper) (c : COp) : Bool :=
  (o.after.all fun e => !Region.binds .any e || decide (e.on < i)) &&
  c.bf.all fun j => o.after.any fun e => Region.binds .any e && (decide (e.on = j) || (match cs[e.on]? with | some d => d.bf.contains j | none => false))
def okDrawA (ops : Array Oper) (cs : Array COp) : Bool :=
  (List.range cs.size).all fun j => match ops[j]?, cs[j]? with
    | some o, some b => okOne ops cs j o b && (List.range j).all fun i => match cs[i]? with
      | some a => okPair i a j b
      | none => false
    | _, _ => false

structure Pairs (cs : List COp) : Prop where
  clash : ∀ (i j : Nat) (a b : COp), cs[i]? = some a → cs[j]? = some b → i < j → Clash a b → i ∈ b.bf
  eff : ∀ (i j : Nat) (a b : COp), cs[i]? = some a → cs[j]? = some b → i < j → a.o.eff = true → b.o.eff = true → i ∈ b.bf
  before : ∀ (i j : Nat) (a b : COp), cs[i]? = some a → cs[j]? = some b → i < j → a.o.eff = true → b.o.reads = true → i ∉ b.bf → i ∈ b.alts
  behind : ∀ (i j : Nat) (a b : COp), cs[i]? = some a → cs[j]? = some b → i < j → a.o.reads = true → b.o.eff = true → i ∉ b.bf → j + 1 ∈ a.alts
structure Edges (ops : Array Oper) (cs : List COp) : Prop where
  on : ∀ (i : Nat) (o : Oper), ops[i]? = some o → i < cs.length → ∀ e ∈ o.after, Region.binds .any e = true → e.on < i
  bf : ∀ (i : Nat) (o : Oper) (c : COp), ops[i]? = some o → cs[i]? = some c → ∀ j ∈ c.bf, ∃ e ∈ o.after, Region.binds .any e = true ∧ (e.on = j ∨ ∃ d, cs[e.on]? = some d ∧ j ∈ d.bf)
theorem okDraw_spec {ops : Array Oper} {cs : List COp} (h : okDrawA ops cs.toArray = true) : Pairs cs ∧ Edges ops cs := by
  unfold okDrawA at h
  have key : ∀ j b, cs[j]? = some b → ∃ o, ops[j]? = some o ∧ okOne ops cs.toArray j o b = true ∧ ∀ i a, i < j → cs[i]? = some a → okPair i a j b = true := by
    intro j b hb
    have hj := (List.getElem?_eq_some_iff.1 hb).1
    have h1 := List.all_eq_true.1 h j (by simpa using hj)
    have hb' : cs.toArray[j]? = some b := by simpa using hb
    rw [hb'] at h1
    cases ho : ops[j]? with
    | none => simp [ho] at h1
    | some o =>
      simp only [ho, Bool.and_eq_true] at h1
      refine ⟨o, rfl, h1.1, fun i a hi ha => ?_⟩
      have h2 := List.all_eq_true.1 h1.2 i (by simpa using hi)
      have ha' : cs.toArray[i]? = some a := by simpa using ha
      rw [ha'] at h2
      exact h2
  have pair : ∀ i j a b, cs[i]? = some a → cs[j]? = some b → i < j → okPair i a j b = true := by
    intro i j a b ha hb hij
    obtain ⟨o, _, _, h3⟩ := key j b hb
    exact h3 i a hij ha
  refine ⟨⟨?_, ?_, ?_, ?_⟩, ⟨?_, ?_⟩⟩
  · intro i j a b ha hb hij hc
    have := pair i j a b ha hb hij
    simp only [okPair, Bool.and_eq_true, Bool.or_eq_true, Bool.not_eq_true', clash_of hc, Bool.true_eq_false, false_or, List.contains_iff_mem] at this
    exact this.1.1.1
  · intro i j a b ha hb hij h1 h2
    have := pair i j a b ha hb hij
    simp only [okPair, h1, h2, Bool.and_eq_true, Bool.or_eq_true, Bool.not_eq_true', Bool.and_self, Bool.true_eq_false, false_or, List.contains_iff_mem] at this
    exact this.1.1.2
  · intro i j a b ha hb hij h1 h2 h3
    have := pair i j a b ha hb hij
    simp only [okPair, h1, h2, Bool.and_eq_true, Bool.or_eq_true, Bool.not_eq_true', Bool.and_self, Bool.true_eq_false, false_or, List.contains_iff_mem] at this
    exact this.1.2.resolve_left h3
  · intro i j a b ha hb hij h1 h2 h3
    have := pair i j a b ha hb hij
    simp only [okPair, h1, h2, Bool.and_eq_true, Bool.or_eq_true, Bool.not_eq_true', Bool.and_self, Bool.true_eq_false, false_or, List.contains_iff_mem] at this
    exact this.2.resolve_left h3
  · intro i o ho hi e he hb
    obtain ⟨o', ho', h1, _⟩ := key i _ (List.getElem?_eq_getElem hi)
    rw [ho] at ho'
    cases ho'
    simp only [okOne, Bool.and_eq_true] at h1
    have := Array.all_eq_true_iff_forall_mem.1 h1.1 e he
    simpa [hb] using this
  · intro i o c ho hc j hj
    obtain ⟨o', ho', h1, _⟩ := key i c hc
    rw [ho] at ho'
    cases ho'
    simp only [okOne, Bool.and_eq_true] at h1
    have h2 := List.all_eq_true.1 h1.2 j hj
    rw [← Array.any_toList, List.any_eq_true] at h2
    obtain ⟨e, he, h3⟩ := h2
    have he := Array.mem_toList_iff.1 he
    simp only [Bool.and_eq_true, Bool.or_eq_true, decide_eq_true_eq] at h3
    refine ⟨e, he, h3.1, h3.2.imp id fun h4 => ?_⟩
    split at h4
    · rename_i d hd
      exact ⟨d, by simpa using hd, by simpa using h4⟩
    · simp at h4

/-! the run in the text's order, as it is remembered -/
def StepD (call : Nat → List AV → Heap → Option (AV × Heap)) (c : COp) (T : Env) (H : Heap) (T' : Env) (H' : Heap) : Prop :=
  (evGuard T c.g = some true ∧ ∃ v, evOp call T H c.o = some (v, H') ∧ T' = put T c.d v) ∨ (evGuard T c.g = some false ∧ H' = H ∧ T' = put T c.d (.tup []))
structure Trace (call : Nat → List AV → Heap → Option (AV × Heap)) (cs : List COp) (Ts : Nat → Env) (Hs : Nat → Heap) : Prop where
  step : ∀ (i : Nat) (c : COp), cs[i]? = some c → StepD call c (Ts i) (Hs i) (Ts (i + 1)) (Hs (i + 1))
theorem evOpsD_trace {call : Nat → List AV → Heap → Option (AV × Heap)} : ∀ (cs : List COp) (T : Env) (H : Heap) (hs : List Heap) (as : List (COp × Env × AV)) (T' : Env) (H' : Heap) (hs' : List Heap) (as' : List (COp × Env × AV)),
    evOpsD call cs T H hs as = some (T', H', hs', as') → ∃ Ts Hs, Trace call cs Ts Hs ∧ Ts 0 = T ∧ Hs 0 = H ∧ Ts cs.length = T' ∧ Hs cs.length = H' ∧ (∀ j, j ≤ cs.length → hs'[hs.length + j]? = some (Hs j)) ∧ (∀ j, j < hs.length → hs'[j]? = hs[j]?) ∧ (∀ x ∈ as, x ∈ as') ∧
      ∀ (i : Nat) (c : COp) (v : AV) (H1 : Heap), cs[i]? = some c → evGuard (Ts i) c.g = some true → evOp call (Ts i) (Hs i) c.o = some (v, H1) → c.alts ≠ [] → (c, Ts i, v) ∈ as'
  | [], T, H, hs, as, T', H', hs', as', h => by
    simp only [evOpsD, Option.some.injEq, Prod.mk.injEq] at h
    obtain ⟨rfl, rfl, rfl, rfl⟩ := h
    refine ⟨fun _ => T, fun _ => H, ⟨fun i c hc => by simp at hc⟩, rfl, rfl, rfl, rfl, fun j hj => ?_, fun j hj => ?_, fun x hx => hx, fun i c v H1 hc => by simp at hc⟩
    · simp at hj; subst hj; simp
    · rw [List.getElem?_append_left hj]
  | c :: cs, T, H, hs, as, T', H', hs', as', h => by
    simp only [evOpsD] at h
    have glue : ∀ (T1 : Env) (H1 : Heap) (as1 : List (COp × Env × AV)), evOpsD call cs T1 H1 (hs ++ [H]) as1 = some (T', H', hs', as') → StepD call c T H T1 H1 → (∀ x ∈ as, x ∈ as1) →
        (∀ v H2, evGuard T c.g = some true → evOp call T H c.o = some (v, H2) → c.alts ≠ [] → (c, T, v) ∈ as1) →
        ∃ Ts Hs, Trace call (c :: cs) Ts Hs ∧ Ts 0 = T ∧ Hs 0 = H ∧ Ts (c :: cs).length = T' ∧ Hs (c :: cs).length = H' ∧ (∀ j, j ≤ (c :: cs).length → hs'[hs.length + j]? = some (Hs j)) ∧ (∀ j, j < hs.length → hs'[j]? = hs[j]?) ∧ (∀ x ∈ as, x ∈ as') ∧
          ∀ (i : Nat) (d : COp) (v : AV) (H2 : Heap), (c :: cs)[i]? = some d → evGuard (Ts i) d.g = some true → evOp call (Ts i) (Hs i) d.o = some (v, H2) → d.alts ≠ [] → (d, Ts i, v) ∈ as' := by
      intro T1 H1 as1 h1 hstep has hfirst
      obtain ⟨Ts, Hs, htr, t0, h0, tn, hn, hh, hpre, hsub, hall⟩ := evOpsD_trace cs T1 H1 (hs ++ [H]) as1 T' H' hs' as' h1
      refine ⟨fun i => match i with | 0 => T | i + 1 => Ts i, fun i => match i with | 0 => H | i + 1 => Hs i, ⟨fun i d hd => ?_⟩, rfl, rfl, tn, hn, fun j hj => ?_, fun j hj => ?_, fun x hx => hsub x (has x hx), fun i d v H2 hd hg he ha => ?_⟩
      · cases i with
        | zero =>
          simp at hd
          subst hd
          show StepD call c T H (Ts 0) (Hs 0)
          rw [t0, h0]; exact hstep
        | succ i => exact htr.step i d (by simpa using hd)
      · cases j with
        | zero =>
          have := hpre hs.length (by simp)
          simpa using this
        | succ j =>
          have := hh j (by simpa using hj)
          rw [List.length_append] at this
          rw [← this]
          congr 1
          simp; omega
      · rw [hpre j (by simp; omega), List.getElem?_append_left hj]
      · cases i with
        | zero =>
          simp at hd
          subst hd
          exact hsub _ (hfirst v H2 hg he ha)
        | succ i => exact hall i d v H2 (by simpa using hd) hg he ha
    split at h
    · rename_i hg
      split at h
      · rename_i v H1 hv
        refine glue _ _ _ h (.inl ⟨hg, v, hv, rfl⟩) (fun x hx => ?_) fun v' H2 _ hv' ha => ?_
        · split
          · exact hx
          · exact List.mem_append.2 (.inl hx)
        · rw [hv] at hv'
          cases hv'
          rw [if_neg (by simpa using ha)]
          exact List.mem_append.2 (.inr (by simp))
      · cases h
    · rename_i hg
      refine glue _ _ _ h (.inr ⟨hg, rfl, rfl⟩) (fun x hx => hx) fun v' H2 hg' => ?_
      rw [hg] at hg'
      cases hg'
    · cases h

theorem Trace.heap {call : Nat → List AV → Heap → Option (AV × Heap)} {cs : List COp} {Ts : Nat → Env} {Hs : Nat → Heap} (h : Trace call cs Ts Hs) {p k : Nat} (hpk : p ≤ k) (hk : k ≤ cs.length)
    (hno : ∀ j, p ≤ j → j < k → ∀ c, cs[j]? = some c → c.o.eff = false) : Hs k = Hs p := by
  induction k with
  | zero => have : p = 0 := by omega
            rw [this]
  | succ k ih =>
    by_cases hp : p = k + 1
    · rw [hp]
    · have hlt : k < cs.length := by omega
      have hc := List.getElem?_eq_getElem hlt
      have he := hno k (by omega) (by omega) _ hc
      rw [← ih (by omega) (by omega) (fun j h1 h2 => hno j h1 (by omega))]
      rcases h.step k _ hc with ⟨_, v, hv, _⟩ | ⟨_, hh, _⟩
      · rw [evOp_pure he] at hv
        cases hp : evRe call (Ts k) (Hs k) cs[k].o with
        | none => simp [hp] at hv
        | some y => simp only [hp, Option.map_some, Option.some.injEq, Prod.mk.injEq] at hv; exact hv.2.symm
      · exact hh
theorem Trace.env {call : Nat → List AV → Heap → Option (AV × Heap)} {cs : List COp} {Ts : Nat → Env} {Hs : Nat → Heap} (h : Trace call cs Ts Hs) {p k t : Nat} (hpk : p ≤ k) (hk : k ≤ cs.length)
    (hno : ∀ j, p ≤ j → j < k → ∀ c, cs[j]? = some c → c.d ≠ some t) : get (Ts k) t = get (Ts p) t := by
  induction k with
  | zero => have : p = 0 := by omega
            rw [this]
  | succ k ih =>
    by_cases hp : p = k + 1
    · rw [hp]
    · have hlt : k < cs.length := by omega
      have hc := List.getElem?_eq_getElem hlt
      have hd := hno k (by omega) (by omega) _ hc
      rw [← ih (by omega) (by omega) (fun j h1 h2 => hno j h1 (by omega))]
      rcases h.step k _ hc with ⟨_, v, _, ht⟩ | ⟨_, _, ht⟩
      · rw [ht, get_put, if_neg hd]
      · rw [ht, get_put, if_neg hd]

/-- the least index, if there is one, with a property below a bound -/
theorem least_of {p : Nat → Prop} {n : Nat} (h : ∃ i, i < n ∧ p i) : ∃ i, i < n ∧ p i ∧ ∀ j, j < i → ¬ p j := by
  obtain ⟨i, hi, hp⟩ := h
  induction i using Nat.strongRecOn with
  | _ i ih =>
    by_cases hj : ∃ j, j < i ∧ p j
    · obtain ⟨j, hji, hpj⟩ := hj
      exact ih j hji (by omega) hpj
    · exact ⟨i, hi, hp, fun j hji hpj => hj ⟨j, hji, hpj⟩⟩
theorem greatest_of {p : Nat → Prop} {n : Nat} (h : ∃ i, i < n ∧ p i) : ∃ i, i < n ∧ p i ∧ ∀ j, i < j → j < n → ¬ p j := by
  induction n with
  | zero => obtain ⟨i, hi, _⟩ := h; omega
  | succ n ih =>
    by_cases hn : p n
    · exact ⟨n, Nat.lt_succ_self n, hn, fun j h1 h2 => by omega⟩
    · obtain ⟨i, hi, hp⟩ := h
      have : i ≠ n := fun e => hn (e ▸ hp)
      obtain ⟨k, hk, hpk, hmax⟩ := ih ⟨i, by omega, hp⟩
      refine ⟨k, by omega, hpk, fun j h1 h2 => ?_⟩
      by_cases hj : j = n
      · rw [hj]; exact hn
      · exact hmax j h1 (by omega)

/-- the state of a region under way -/
structure Way (cs : List COp) (Ts : Nat → Env) (Hs : Nat → Heap) (B : Nat) (S0 : Sta) (w0 : World) (a0 : Act) (listed : Array Bool) (S : Sta) (a : Act) (w : World) : Prop where
  size : listed.size = cs.length
  closed : ∀ (i : Nat) (c : COp), cs[i]? = some c → listed.getD i false = true → ∀ j ∈ c.bf, listed.getD j false = true
  heap : ∃ e, e ≤ cs.length ∧ S.H = Hs e ∧ (∀ (j : Nat) (c : COp), cs[j]? = some c → c.o.eff = true → j < e → listed.getD j false = true) ∧ (∀ (j : Nat) (c : COp), cs[j]? = some c → c.o.eff = true → e ≤ j → listed.getD j false = false)
  tmps : ∀ (t k : Nat), k ≤ cs.length → (∀ (q : Nat) (c : COp), cs[q]? = some c → c.d = some t → (listed.getD q false = true ↔ q < k)) → ∀ x, get (Ts k) t = some x → ∃ v, a.tmps[t]? = some v ∧ RepV S x v
  rel : WRel S w B
  ext : Ext S0 S
  below : Bel B w0 w
  defers : a.defers = a0.defers
  tsize : a.tmps.size = a0.tmps.size

theorem draw_sound {P : Program} {call : Nat → List AV → Heap → Option (AV × Heap)} (hcall : CallOk P call) {n : Nat} {ops : Array Oper} {cs : List COp} (hok : okCOps P n ops ops.toList cs = true) (hP : Pairs cs) (hE : Edges ops cs)
    {Ts : Nat → Env} {Hs : Nat → Heap} (htr : Trace call cs Ts Hs)
    (halt : ∀ (i : Nat) (c : COp) (v : AV) (H1 : Heap), cs[i]? = some c → evGuard (Ts i) c.g = some true → evOp call (Ts i) (Hs i) c.o = some (v, H1) → ∀ j ∈ c.alts, j ≤ cs.length ∧ evRe call (Ts i) (Hs j) c.o = some v)
    {B : Nat} {S0 : Sta} {w0 : World} {a0 : Act} (hn : n ≤ a0.tmps.size) {Q : Exit → Act → World → Prop}
    (hQ : ∀ a w S, S.H = Hs cs.length → TAll S (Ts cs.length) a.tmps → WRel S w B → Ext S0 S → Bel B w0 w → a.defers = a0.defers → a.tmps.size = a0.tmps.size → Q .normal a w) :
    ∀ (fuel : Nat) (listed : Array Bool) (S : Sta) (a : Act) (w : World), Way cs Ts Hs B S0 w0 a0 listed S a w → (∃ l : List Nat, l.length ≤ fuel ∧ ∀ i, i < cs.length → listed.getD i false = false → i ∈ l) →
      wpAny P .any ops Q fuel listed a w := by
  have hlen : cs.length = ops.size := by
    have key : ∀ (os : List Oper) (cs : List COp), okCOps P n ops os cs = true → cs.length = os.length := by
      intro os
      induction os with
      | nil => intro cs h; cases cs <;> simp_all [okCOps]
      | cons o os ih =>
        intro cs h
        cases cs with
        | nil => simp [okCOps] at h
        | cons c cs =>
          simp only [okCOps, Bool.and_eq_true] at h
          simp [ih cs h.2]
    simpa using key _ _ hok
  have hop : ∀ (i : Nat) (o : Oper) (c : COp), ops[i]? = some o → cs[i]? = some c → okCOp P n ops o c = true := by
    have key : ∀ (os : List Oper) (cs : List COp), okCOps P n ops os cs = true → ∀ (i : Nat) (o : Oper) (c : COp), os[i]? = some o → cs[i]? = some c → okCOp P n ops o c = true := by
      intro os
      induction os with
      | nil => intro cs h i o c ho; simp at ho
      | cons o os ih =>
        intro cs h i o' c ho hc
        cases cs with
        | nil => simp at hc
        | cons c' cs =>
          simp only [okCOps, Bool.and_eq_true] at h
          cases i with
          | zero => simp at ho hc; subst ho; subst hc; exact h.1
          | succ i => exact ih cs h.2 i o' c (by simpa using ho) (by simpa using hc)
    intro i o c ho hc
    exact key _ _ hok i o c (by simpa using ho) hc
  -- nothing left
  have fin : ∀ (listed : Array Bool) (S : Sta) (a : Act) (w : World), Way cs Ts Hs B S0 w0 a0 listed S a w → Region.ready .any ops listed = [] → Q .normal a w := by
    intro listed S a w hw hr
    have hall : ∀ i, i < cs.length → listed.getD i false = true := by
      intro i
      induction i using Nat.strongRecOn with
      | _ i ih =>
        intro hi
        cases hl : listed.getD i false with
        | true => rfl
        | false =>
          have hi' : i < ops.size := by omega
          have ho := Array.getElem?_eq_getElem hi'
          have hm : i ∈ Region.ready .any ops listed := by
            rw [mem_ready]
            refine ⟨?_, _, ho, fun e he hb => ?_⟩
            · have : i < listed.size := by rw [hw.size]; exact hi
              simpa [Array.getD_eq_getD_getElem?, this] using hl
            · have hlt := hE.on i _ ho hi e he hb
              exact ih e.on hlt (by omega)
          rw [hr] at hm
          simp at hm
    obtain ⟨e, he, hSe, h1, h2⟩ := hw.heap
    have hHn : S.H = Hs cs.length := by
      rw [hSe]
      refine (htr.heap he (Nat.le_refl _) fun j hj1 hj2 c hc => ?_).symm
      cases hce : c.o.eff with
      | false => rfl
      | true =>
        have := h2 j c hc hce hj1
        rw [hall j hj2] at this
        cases this
    exact hQ a w S hHn (fun t x hx => hw.tmps t cs.length (Nat.le_refl _) (fun q c hc _ => by
      have := (List.getElem?_eq_some_iff.1 hc).1
      simp [hall q this, this]) x hx) hw.rel hw.ext hw.below hw.defers hw.tsize
  intro fuel
  induction fuel with
  | zero =>
    intro listed S a w hw hcount
    have hr : Region.ready .any ops listed = [] := by
      obtain ⟨l, hl, hm⟩ := hcount
      have : l = [] := List.eq_nil_of_length_eq_zero (by omega)
      subst this
      cases hrr : Region.ready .any ops listed with
      | nil => rfl
      | cons i rest =>
        have hi : i ∈ Region.ready .any ops listed := by rw [hrr]; simp
        rw [mem_ready] at hi
        obtain ⟨h0, o, ho, _⟩ := hi
        have hlt : i < cs.length := by rw [hlen]; exact (Array.getElem?_eq_some_iff.1 ho).1
        have : listed.getD i false = false := by
          have hls : i < listed.size := by rw [hw.size]; exact hlt
          simpa [Array.getD_eq_getD_getElem?, hls] using h0
        exact absurd (hm i hlt this) (by simp)
    exact ⟨hr, fin listed S a w hw hr⟩
  | succ fuel ih =>
    intro listed S a w hw hcount
    refine ⟨fun hr => fin listed S a w hw hr, fun i hi => ?_⟩
    rw [mem_ready] at hi
    obtain ⟨h0, o, ho, hedge⟩ := hi
    have hi' : i < ops.size := (Array.getElem?_eq_some_iff.1 ho).1
    have hilt : i < cs.length := by omega
    have hls : i < listed.size := by rw [hw.size]; exact hilt
    have hunl : listed.getD i false = false := by simpa [Array.getD_eq_getD_getElem?, hls] using h0
    obtain ⟨c, hc⟩ : ∃ c, cs[i]? = some c := ⟨_, List.getElem?_eq_getElem hilt⟩
    have hcok := hop i o c ho hc
    unfold okCOp at hcok
    simp only [Bool.and_eq_true, decide_eq_true_eq] at hcok
    obtain ⟨⟨⟨hd, hdn⟩, hg⟩, hco⟩ := hcok
    have hdlt : ∀ j, c.d = some j → j < a.tmps.size := by
      intro j hj
      rw [hj] at hdn
      simp only [decide_eq_true_eq] at hdn
      rw [hw.tsize]; omega
    -- what comes before is listed
    have hbf : ∀ j ∈ c.bf, listed.getD j false = true := by
      intro j hj
      obtain ⟨e, he, hb, h⟩ := hE.bf i o c ho hc j hj
      have hle := hedge e he hb
      rcases h with rfl | ⟨d, hd, hjd⟩
      · exact hle
      · exact hw.closed e.on d hd hle j hjd
    -- whoever clashes and stands behind is not listed
    have hafter : ∀ q b, cs[q]? = some b → i < q → Clash c b → listed.getD q false = false := by
      intro q b hb hiq hcl
      cases hq : listed.getD q false with
      | false => rfl
      | true =>
        have := hw.closed q b hb hq i (hP.clash i q c b hc hb hiq hcl)
        rw [hunl] at this
        cases this
    have hT : ∀ t ∈ c.names, ∀ x, get (Ts i) t = some x → ∃ v, a.tmps[t]? = some v ∧ RepV S x v := by
      intro t ht x hx
      refine hw.tmps t i (by omega) (fun q b hb hbd => ?_) x hx
      rcases Nat.lt_trichotomy q i with hlt | heq | hgt
      · have := hbf q (hP.clash q i b c hb hc hlt (.inl ⟨t, hbd, ht⟩))
        simp [this, hlt]
      · subst heq
        simp [hunl]
      · have := hafter q b hb hgt (.inr ⟨t, hbd, ht⟩)
        simp [this]; omega
    obtain ⟨e, he, hSe, hle1, hle2⟩ := hw.heap
    -- behind the step
    have done : ∀ (x : AV) (u : Value) (S' : Sta) (w' : World), Ts (i + 1) = put (Ts i) c.d x → RepV S' x u → WRel S' w' B → Ext S S' → Bel B w w' →
        (∃ e', e' ≤ cs.length ∧ S'.H = Hs e' ∧ (∀ (j : Nat) (b : COp), cs[j]? = some b → b.o.eff = true → j < e' → j = i ∨ listed.getD j false = true) ∧ (∀ (j : Nat) (b : COp), cs[j]? = some b → b.o.eff = true → e' ≤ j → j ≠ i ∧ listed.getD j false = false)) →
        wpAny P .any ops Q fuel (listed.setIfInBounds i true) (a.put c.d u) w' := by
      intro x u S' w' hTs hr hW' hE' hB' hheap
      have hset : ∀ j, (listed.setIfInBounds i true).getD j false = if j = i then true else listed.getD j false := by
        intro j
        by_cases hj : j = i
        · subst hj; simp [hls]
        · rw [if_neg hj]; exact getD_set_ne false (fun e => hj e.symm)
      refine ih (listed.setIfInBounds i true) S' (a.put c.d u) w' ⟨by simpa using hw.size, ?_, ?_, ?_, hW', hw.ext.trans hE', hw.below.trans hB', by rw [put_defers']; exact hw.defers, by rw [put_size]; exact hw.tsize⟩ ?_
      · intro q b hb hq j hj
        rw [hset] at hq ⊢
        split
        · rfl
        · split at hq
          · rename_i hqi
            subst hqi
            rw [hc] at hb
            cases hb
            exact hbf j hj
          · exact hw.closed q b hb hq j hj
      · obtain ⟨e', h1, h2, h3, h4⟩ := hheap
        refine ⟨e', h1, h2, fun j b hb hbe hj => ?_, fun j b hb hbe hj => ?_⟩
        · rw [hset]
          rcases h3 j b hb hbe hj with h | h
          · rw [if_pos h]
          · split
            · rfl
            · exact h
        · obtain ⟨h5, h6⟩ := h4 j b hb hbe hj
          rw [hset, if_neg h5]; exact h6
      · intro t k hk hcond y hy
        by_cases hdt : c.d = some t
        · have hik : i < k := (hcond i c hc hdt).1 (by rw [hset, if_pos rfl])
          have hno : get (Ts k) t = get (Ts (i + 1)) t := by
            refine htr.env hik hk fun j hj1 hj2 b hb hbd => ?_
            have h1 := (hcond j b hb hbd).2 hj2
            rw [hset, if_neg (by omega)] at h1
            rw [hafter j b hb (by omega) (.inl ⟨t, hdt, by simp [COp.names, hbd]⟩)] at h1
            cases h1
          rw [hno, hTs, get_put, if_pos hdt] at hy
          cases hy
          exact ⟨u, by rw [put_get a c.d u t hdlt, if_pos hdt], hr⟩
        · obtain ⟨v, hv, hrv⟩ := hw.tmps t k hk (fun q b hb hbd => by
            have := hcond q b hb hbd
            rw [hset, if_neg (fun e => by subst e; rw [hc] at hb; cases hb; exact hdt hbd)] at this
            exact this) y hy
          exact ⟨v, by rw [put_get a c.d u t hdlt, if_neg hdt]; exact hv, hrv.ext hE'⟩
      · obtain ⟨l, hl, hm⟩ := hcount
        refine ⟨l.erase i, ?_, fun j hj hjl => ?_⟩
        · have := hm i hilt hunl
          rw [List.length_erase_of_mem this]
          omega
        · rw [hset] at hjl
          split at hjl
          · cases hjl
          · rename_i hji
            exact (List.mem_erase_of_ne hji).2 (hm j hj hjl)
    -- the heap behind an operation that writes
    have effHeap : c.o.eff = true → Hs e = Hs i ∧ e ≤ i := by
      intro hce
      have hei : e ≤ i := by
        rcases Nat.lt_or_ge i e with h | h
        · have := hle1 i c hc hce h
          rw [hunl] at this
          cases this
        · exact h
      refine ⟨(htr.heap hei (by omega) fun j h1 h2 b hb => ?_).symm, hei⟩
      cases hbe : b.o.eff with
      | false => rfl
      | true =>
        have h3 := hle2 j b hb hbe h1
        have h4 := hbf j (hP.eff j i b c hb hc h2 hbe hce)
        rw [h3] at h4
        cases h4
    have effNext : c.o.eff = true → ∀ S' : Sta, S'.H = Hs (i + 1) → ∃ e', e' ≤ cs.length ∧ S'.H = Hs e' ∧ (∀ (j : Nat) (b : COp), cs[j]? = some b → b.o.eff = true → j < e' → j = i ∨ listed.getD j false = true) ∧ (∀ (j : Nat) (b : COp), cs[j]? = some b → b.o.eff = true → e' ≤ j → j ≠ i ∧ listed.getD j false = false) := by
      intro hce S' hS'
      obtain ⟨_, hei⟩ := effHeap hce
      refine ⟨i + 1, by omega, hS', fun j b hb hbe hj => ?_, fun j b hb hbe hj => ⟨by omega, hle2 j b hb hbe (by omega)⟩⟩
      by_cases hji : j = i
      · exact .inl hji
      · exact .inr (hbf j (hP.eff j i b c hb hc (by omega) hbe hce))
    have pureNext : c.o.eff = false → ∀ S' : Sta, S'.H = Hs e → ∃ e', e' ≤ cs.length ∧ S'.H = Hs e' ∧ (∀ (j : Nat) (b : COp), cs[j]? = some b → b.o.eff = true → j < e' → j = i ∨ listed.getD j false = true) ∧ (∀ (j : Nat) (b : COp), cs[j]? = some b → b.o.eff = true → e' ≤ j → j ≠ i ∧ listed.getD j false = false) := by
      intro hce S' hS'
      refine ⟨e, he, hS', fun j b hb hbe hj => .inr (hle1 j b hb hbe hj), fun j b hb hbe hj => ⟨?_, hle2 j b hb hbe hj⟩⟩
      rintro rfl
      rw [hc] at hb
      cases hb
      rw [hce] at hbe
      cases hbe
    have hwant : ∀ r, evGuard (Ts i) c.g = some r → Region.wanted o (yielded ops a.tmps) = r := fun r hr =>
      guard_sound (S := S) hg (fun s b hgs x hx => hT s (by simp [COp.names, hgs]) x hx) hr
    unfold wpOp
    simp only [ho]
    rcases htr.step i c hc with ⟨hgt, v, hv, hTs⟩ | ⟨hgt, hHs, hTs⟩
    · rw [hwant true hgt, if_pos rfl]
      left
      have hTrel : TRel S (Ts i) a.tmps c.o.slots := fun t ht x hx => hT t (by simp [COp.names, ht]) x hx
      cases hce : c.o.eff with
      | true =>
        obtain ⟨hHe, hei⟩ := effHeap hce
        have hv' : evOp call (Ts i) S.H c.o = some (v, Hs (i + 1)) := by rw [hSe, hHe]; exact hv
        refine op_sound hcall hw.rel hTrel hco hv' fun u w' S' h1 h2 h3 h4 h5 => ?_
        rw [hd]
        exact done v u S' w' hTs h2 h3 h4 h5 (effNext hce S' h1)
      | false =>
        have hv1 := hv
        rw [evOp_pure hce] at hv1
        cases hpv : evRe call (Ts i) (Hs i) c.o with
        | none => simp [hpv] at hv1
        | some y =>
          simp only [hpv, Option.map_some, Option.some.injEq, Prod.mk.injEq] at hv1
          obtain ⟨rfl, hHi⟩ := hv1
          have hpe : evRe call (Ts i) S.H c.o = some y := by
            rw [hSe]
            cases hre : c.o.reads with
            | false => rw [evRe_any hce hre (H' := Hs i)]; exact hpv
            | true =>
              rcases Nat.lt_or_ge e i with hei | hei
              · by_cases hex : ∃ j, j < i ∧ (e ≤ j ∧ ∃ b, cs[j]? = some b ∧ b.o.eff = true)
                · obtain ⟨j, hji, ⟨hej, b, hb, hbe⟩, hmin⟩ := least_of hex
                  have hHj : Hs j = Hs e := htr.heap hej (by omega) fun q h1 h2 b' hb' => by
                    cases hbe' : b'.o.eff with
                    | false => rfl
                    | true => exact absurd ⟨h1, b', hb', hbe'⟩ (hmin q h2)
                  have hnb : j ∉ c.bf := fun hm => by
                    have := hbf j hm
                    rw [hle2 j b hb hbe hej] at this
                    cases this
                  have := (halt i c y _ hc hgt hv j (hP.before j i b c hb hc hji hbe hre hnb)).2
                  rw [← hHj]; exact this
                · have hHj : Hs i = Hs e := htr.heap (by omega) (by omega) fun q h1 h2 b' hb' => by
                    cases hbe' : b'.o.eff with
                    | false => rfl
                    | true => exact absurd ⟨q, h2, h1, b', hb', hbe'⟩ hex
                  rw [← hHj]; exact hpv
              · by_cases hex : ∃ j, j < e ∧ (i ≤ j ∧ ∃ b, cs[j]? = some b ∧ b.o.eff = true)
                · obtain ⟨j, hje, ⟨hij, b, hb, hbe⟩, hmax⟩ := greatest_of hex
                  have hji : i < j := by
                    rcases Nat.lt_or_ge i j with h | h
                    · exact h
                    · have : j = i := by omega
                      subst this
                      rw [hc] at hb
                      cases hb
                      rw [hce] at hbe
                      cases hbe
                  have hHj : Hs e = Hs (j + 1) := htr.heap (by omega) he fun q h1 h2 b' hb' => by
                    cases hbe' : b'.o.eff with
                    | false => rfl
                    | true => exact absurd ⟨by omega, b', hb', hbe'⟩ (hmax q (by omega) h2)
                  have hnb : i ∉ b.bf := fun hm => by
                    have := hw.closed j b hb (hle1 j b hb hbe hje) i hm
                    rw [hunl] at this
                    cases this
                  have := (halt i c y _ hc hgt hv (j + 1) (hP.behind i j c b hc hb hji hre hbe hnb)).2
                  rw [hHj]; exact this
                · have hHj : Hs e = Hs i := htr.heap hei he fun q h1 h2 b' hb' => by
                    cases hbe' : b'.o.eff with
                    | false => rfl
                    | true => exact absurd ⟨q, h2, h1, b', hb', hbe'⟩ hex
                  rw [hHj]; exact hpv
          have hv' : evOp call (Ts i) S.H c.o = some (y, S.H) := by rw [evOp_pure hce, hpe]; rfl
          refine op_sound hcall hw.rel hTrel hco hv' fun u w' S' h1 h2 h3 h4 h5 => ?_
          rw [hd]
          exact done y u S' w' hTs h2 h3 h4 h5 (pureNext hce S' (h1.trans hSe))
    · rw [hwant false hgt]
      simp only [Bool.false_eq_true, if_false]
      rw [hd]
      refine done _ undef S w hTs (rep_undef S) hw.rel (Ext.refl S) (Bel.refl B w) ?_
      cases hce : c.o.eff with
      | true =>
        obtain ⟨hHe, _⟩ := effHeap hce
        exact effNext hce S (by rw [hSe, hHe, hHs])
      | false => exact pureNext hce S hSe

theorem evDraw_sound {P : Program} (hmix : P.follows .mixedOrders = true) {call : Nat → List AV → Heap → Option (AV × Heap)} (hcall : CallOk P call) {n : Nat} {ops : Array Oper} {cs : List COp} (hok : okCOps P n ops ops.toList cs = true) (hd : okDrawA ops cs.toArray = true)
    {id : Nat} {Q : Exit → Act → World → Prop} {B : Nat} {S : Sta} {T : Env} {a : Act} {w : World} {T' : Env} {H' : Heap}
    (hx : evDraw call cs T S.H = some (T', H')) (hT : TAll S T a.tmps) (hW : WRel S w B) (hn : n ≤ a.tmps.size)
    (hQ : ∀ a' w', Ends P S w B a T' H' a' w' → Q .normal a' w') : (Code.region id ops true).wp P Q a w := by
  obtain ⟨hP, hE⟩ := okDraw_spec hd
  unfold evDraw at hx
  split at hx
  · rename_i T1 H1 hs as hrun
    split at hx
    · rename_i hagain
      cases hx
      obtain ⟨Ts, Hs, htr, t0, h0, tn, hn', hh, _, _, hall⟩ := evOpsD_trace cs T S.H [] [] T' H' hs as hrun
      refine wp_region_any hmix ?_
      have hsize : cs.length = ops.size := by
        have key : ∀ (os : List Oper) (cs : List COp), okCOps P n ops os cs = true → cs.length = os.length := by
          intro os
          induction os with
          | nil => intro cs h; cases cs <;> simp_all [okCOps]
          | cons o os ih =>
            intro cs h
            cases cs with
            | nil => simp [okCOps] at h
            | cons c cs =>
              simp only [okCOps, Bool.and_eq_true] at h
              simp [ih cs h.2]
        simpa using key _ _ hok
      have hrep : ∀ j, (Array.replicate ops.size false).getD j false = false := by
        intro j
        simp only [Array.getD_eq_getD_getElem?, Array.getElem?_replicate]
        split <;> rfl
      have hdrew : ({ w with drawn := w.drawn + 1 } : World) = w.drew := rfl
      rw [hdrew]
      refine draw_sound hcall hok hP hE htr ?_ (S0 := S) (w0 := w) (a0 := a) hn ?_ ops.size _ S a w.drew ⟨by simp [hsize], ?_, ⟨0, Nat.zero_le _, h0.symm, fun j c _ _ hj => by omega, fun j c _ _ _ => hrep j⟩, ?_, hW.drew, Ext.refl S, (Bel.refl B w).drew, rfl, rfl⟩ ⟨List.range cs.length, by simp [hsize], fun i hi _ => by simpa using hi⟩
      · intro i c v H1 hc hg hv j hj
        have hne : c.alts ≠ [] := by intro h; rw [h] at hj; simp at hj
        have hm := hall i c v H1 hc hg hv hne
        have ha := List.all_eq_true.1 hagain _ hm
        have h2 := List.all_eq_true.1 ha j hj
        simp only [] at h2
        split at h2
        · rename_i Hj hHj
          split at h2
          · rename_i v' hv'
            have hjl : j ≤ cs.length := by
              rcases Nat.lt_or_ge cs.length j with h | h
              · have hlast := (List.getElem?_eq_some_iff.1 hHj).1
                have hlen : hs.length = cs.length + 1 := by
                  have key : ∀ (cs : List COp) (T : Env) (H : Heap) (hs0 : List Heap) (as0 : List (COp × Env × AV)) (T' : Env) (H' : Heap) (hs' : List Heap) (as' : List (COp × Env × AV)), evOpsD call cs T H hs0 as0 = some (T', H', hs', as') → hs'.length = hs0.length + cs.length + 1 := by
                    intro cs
                    induction cs with
                    | nil => intro T H hs0 as0 T' H' hs' as' h; simp only [evOpsD, Option.some.injEq, Prod.mk.injEq] at h; obtain ⟨_, _, rfl, _⟩ := h; simp
                    | cons c cs ih =>
                      intro T H hs0 as0 T' H' hs' as' h
                      simp only [evOpsD] at h
                      split at h
                      · split at h
                        · have := ih _ _ _ _ _ _ _ _ h; simp at this ⊢; omega
                        · cases h
                      · have := ih _ _ _ _ _ _ _ _ h; simp at this ⊢; omega
                      · cases h
                  simpa using key _ _ _ _ _ _ _ _ _ hrun
                omega
              · exact h
            refine ⟨hjl, ?_⟩
            have := hh j hjl
            simp only [List.length_nil, Nat.zero_add] at this
            rw [hHj] at this
            cases this
            unfold evRe
            rw [hv', AV.eq_of_beq _ _ h2]; rfl
          · cases h2
        · cases h2
      · intro a' w' S' e1 e2 e3 e4 e5 e6 e7
        exact hQ a' w' ⟨S', by rw [e1, hn'], by rw [tn] at e2; exact e2, e3, e4, e5, e6, e7⟩
      · intro i c _ hi
        rw [hrep] at hi
        cases hi
      · intro t k hk hcond x hx
        have hno : get (Ts k) t = get (Ts 0) t := by
          refine htr.env (Nat.zero_le _) hk fun j _ hj c hc hcd => ?_
          have := (hcond j c hc hcd).2 hj
          rw [hrep] at this
          cases this
        rw [hno, t0] at hx
        exact hT t x hx
    · cases hx
  · cases hx
end Go.Proofs.YtbdpceigmnpoaaaGreatDoor.Ev
