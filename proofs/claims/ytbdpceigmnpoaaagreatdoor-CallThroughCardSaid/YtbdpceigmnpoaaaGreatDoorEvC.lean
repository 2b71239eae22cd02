/- How the compact code is held against the program's own: the operands and what only reads. -/
import Derived.Test.YtbdpceigmnpoaaaGreatDoorEvB
import Derived.Laws.StructEq
import Derived.Laws.BytesString
import Derived.Laws.CopyRow
set_option linter.unusedSimpArgs false
set_option linter.unusedVariables false
namespace Go.Proofs.YtbdpceigmnpoaaaGreatDoor.Ev
open Go.RowKit

def okCell : Value → AV → Bool
  | .int k n, .int k' n' => decide (k = k') && decide (n = n')
  | .bool b, .bool b' => b == b'
  | .string s, .str t => decide (s.data = t.data)
  | .pointer none, .nilptr => true
  | .slice none 0 0, .nils => true
  | .nilFunc, .nilfn => true
  | .func (.func f) first cap, .fn f' [] => decide (f = f') && first.isEmpty && cap.isEmpty
  | _, _ => false
def okCells : List Value → List AV → Bool
  | [], [] => true
  | v :: l, a :: m => okCell v a && okCells l m
  | _, _ => false
def okConst (v : Value) (a : AV) : Bool :=
  match a with
  | .agg as => match v with
    | .agg cs => okCells cs.toList as
    | _ => false
  | a => okCell v a
def okOpd : Operand → COpd → Bool
  | .tmp t, .t t' => decide (t = t')
  | .const v, .c a => okConst v a
  | .func f, .c (.fn f' []) => decide (f = f')
  | _, _ => false
def okOpds : List Operand → List COpd → Bool
  | [], [] => true
  | v :: l, a :: m => okOpd v a && okOpds l m
  | _, _ => false

theorem okCell_rep (S : Sta) {v : Value} {a : AV} (h : okCell v a = true) : RepS S a v := by
  unfold okCell at h
  split at h <;> first
    | (simp only [Bool.and_eq_true, decide_eq_true_eq] at h; obtain ⟨rfl, rfl⟩ := h; exact .frz (.int _ _))
    | (simp at h; done)
    | (simp at h; subst h; exact .frz (.bool _))
    | (simp only [decide_eq_true_eq] at h; rw [data_ext h]; exact .frz (.str _))
    | exact .frz .nilptr
    | exact .frz .nils
    | exact .frz .nilfn
    | (simp only [Bool.and_eq_true, decide_eq_true_eq, Array.isEmpty_iff] at h; obtain ⟨⟨rfl, rfl⟩, rfl⟩ := h; exact .frz (.fn _))
theorem okCells_rep (S : Sta) : ∀ {vs : List Value} {as : List AV}, okCells vs as = true → RepL S as vs
  | [], [], _ => ⟨rfl, fun i x v h => by simp at h⟩
  | [], _ :: _, h => by simp [okCells] at h
  | _ :: _, [], h => by simp [okCells] at h
  | v :: l, a :: m, h => by
    simp only [okCells, Bool.and_eq_true] at h
    have ih := okCells_rep S h.2
    refine ⟨by simp [ih.1], fun i x u hx hu => ?_⟩
    cases i with
    | zero => simp at hx hu; subst hx; subst hu; exact okCell_rep S h.1
    | succ i => exact ih.2 i x u (by simpa using hx) (by simpa using hu)
theorem okConst_rep (S : Sta) {v : Value} {a : AV} (h : okConst v a = true) : RepV S a v := by
  unfold okConst at h
  split at h
  · split at h
    · rename_i as _ cs
      have := okCells_rep S h
      have e : (Value.agg cs) = .agg cs.toList.toArray := by simp
      rw [e]
      exact .one (.agg _ _ this)
    · simp at h
  · exact .one (.s (okCell_rep S h))

def COpd.slots : COpd → List Nat
  | .t i => [i]
  | .c _ => []
def optSlots : Option COpd → List Nat
  | some x => x.slots
  | none => []
def CO.slots : CO → List Nat
  | .mv x => x.slots
  | .pick c a b => c.slots ++ a.slots ++ b.slots
  | .box _ _ x => x.slots
  | .build _ ps => ps.flatMap fun p => p.2.2.slots
  | .bslice _ _ _ ps => ps.flatMap fun p => p.2.slots
  | .flst _ _ _ ps => ps.flatMap fun p => p.2.slots
  | .load _ _ a => a.slots
  | .store _ a x => a.slots ++ x.slots
  | .nilck x => x.slots
  | .bin _ x y => x.slots ++ y.slots
  | .eqb _ x y => x.slots ++ y.slots
  | .eqs _ _ x y => x.slots ++ y.slots
  | .eqn _ _ x y => x.slots ++ y.slots
  | .un _ x => x.slots
  | .convI _ x => x.slots
  | .strid x => x.slots
  | .b2s x => x.slots
  | .mkfn _ cs => cs.flatMap COpd.slots
  | .mkbnd _ x => x.slots
  | .mks _ _ _ _ l c => l.slots ++ c.slots
  | .slc _ x lo hi mx => x.slots ++ optSlots lo ++ optSlots hi ++ optSlots mx
  | .slcs x lo hi => x.slots ++ optSlots lo ++ optSlots hi
  | .faddr _ x => x.slots
  | .field _ _ _ x => x.slots
  | .iaddr _ x i => x.slots ++ i.slots
  | .iaddrA _ _ x i => x.slots ++ i.slots
  | .idx x i => x.slots ++ i.slots
  | .idxA _ _ _ x i => x.slots ++ i.slots
  | .extract x _ => x.slots
  | .call f as _ => f.slots ++ as.flatMap COpd.slots
  | .qcall f as => f.slots ++ as.flatMap COpd.slots
  | .len _ x => x.slots
  | .app _ _ _ _ s x => s.slots ++ x.slots
  | .fapp _ _ _ s x => s.slots ++ x.slots
  | .copy _ d s => d.slots ++ s.slots
  | .clear _ _ x => x.slots
  | .mm _ x xs => x.slots ++ xs.flatMap COpd.slots

/-- what is known of some slots -/
def TRel (S : Sta) (T : Env) (tmps : Array Value) (ss : List Nat) : Prop :=
  ∀ t ∈ ss, ∀ x, get T t = some x → ∃ v, tmps[t]? = some v ∧ RepV S x v
theorem TRel.sub {S : Sta} {T : Env} {tmps : Array Value} {ss ss' : List Nat} (h : TRel S T tmps ss) (hs : ∀ t ∈ ss', t ∈ ss) : TRel S T tmps ss' :=
  fun t ht => h t (hs t ht)
theorem TRel.ext {S S' : Sta} (hE : Ext S S') {T : Env} {tmps : Array Value} {ss : List Nat} (h : TRel S T tmps ss) : TRel S' T tmps ss :=
  fun t ht x hx => let ⟨v, hv, hr⟩ := h t ht x hx; ⟨v, hv, hr.ext hE⟩

theorem opd_rep {S : Sta} {T : Env} {a : Act} {ss : List Nat} (hT : TRel S T a.tmps ss) {x : Operand} {y : COpd} (h : okOpd x y = true) (hs : ∀ t ∈ y.slots, t ∈ ss) {v : AV} (hv : evOpd T y = some v) :
    RepV S v (a.eval x) := by
  unfold okOpd at h
  split at h
  · simp only [decide_eq_true_eq] at h
    subst h
    obtain ⟨u, hu, hr⟩ := hT _ (hs _ (by simp [COpd.slots])) v hv
    simp only [Act.eval, Array.getD_eq_getD_getElem?, hu, Option.getD_some]
    exact hr
  · simp only [evOpd, Option.some.injEq] at hv
    subst hv
    exact okConst_rep S h
  · simp only [evOpd, Option.some.injEq] at hv
    subst hv
    simp only [decide_eq_true_eq] at h
    subst h
    exact .one (.s (.frz (.fn _)))
  · simp at h
theorem opds_rep {S : Sta} {T : Env} {a : Act} {ss : List Nat} (hT : TRel S T a.tmps ss) : ∀ {xs : List Operand} {ys : List COpd}, okOpds xs ys = true → (∀ t ∈ ys.flatMap COpd.slots, t ∈ ss) → ∀ {vs : List AV}, evOpds T ys = some vs →
    vs.length = xs.length ∧ ∀ (i : Nat) (x : AV) (v : Value), vs[i]? = some x → (xs.map a.eval)[i]? = some v → RepV S x v
  | [], [], _, _, vs, hv => by simp [evOpds] at hv; subst hv; simp
  | [], _ :: _, h, _, _, _ => by simp [okOpds] at h
  | _ :: _, [], h, _, _, _ => by simp [okOpds] at h
  | x :: l, y :: m, h, hs, vs, hv => by
    simp only [okOpds, Bool.and_eq_true] at h
    simp only [evOpds] at hv
    cases h1 : evOpd T y with
    | none => simp [h1] at hv
    | some v =>
      cases h2 : evOpds T m with
      | none => simp [h1, h2] at hv
      | some ws =>
        simp only [h1, h2, Option.some.injEq] at hv
        subst hv
        have ih := opds_rep hT h.2 (fun t ht => hs t (by simp at ht ⊢; exact .inr ht)) h2
        refine ⟨by simp [ih.1], fun i x' u hx hu => ?_⟩
        cases i with
        | zero =>
          simp at hx hu; subst hx; subst hu
          exact opd_rep hT h.1 (fun t ht => hs t (by simp; exact .inl ht)) h1
        | succ i => exact ih.2 i x' u (by simpa using hx) (by simpa using hu)

/-! types -/
def sizeT (P : Program) (t : TypeId) : Option Nat := (P.info? t).map (·.size)
def aggT (P : Program) (t : TypeId) : Option Bool :=
  match P.underlying t with
  | some (.struct _) => some true
  | some (.array _ _) => some true
  | some _ => some false
  | none => none
section
variable {P : Program} (w : World)
theorem run_sizeT {t : TypeId} {n : Nat} (h : sizeT P t = some n) : (sizeOf t).run P w = .ok n w := by
  unfold sizeT at h
  cases hi : P.info? t with
  | none => simp [hi] at h
  | some i => simp [hi] at h; simp [sizeOf, typeInfo, hi, h]
theorem run_aggT {t : TypeId} {b : Bool} (h : aggT P t = some b) : (isAgg t).run P w = .ok b w := by
  unfold aggT at h
  cases hu : P.underlying t with
  | none => simp [hu] at h
  | some d =>
    simp only [isAgg, Sem.run_bind, run_underlying hu w]
    cases d <;> simp_all
end

theorem cell_at {w : World} {g : Nat} {cur : Array Value} {e : TypeId} {fr : Nat × Nat} (h : w.heap[g]? = some (.cells cur e fr)) (o j : Nat) :
    w.cell? ((⟨g, o, none⟩ : Addr).add j) = cur[o + j]? := by
  rw [Addr.add_lit]; exact cell_of_row w g (o + j) cur e fr h

/-- cells in memory, from an address on -/
def CellsAt (S : Sta) (w : World) (a : Addr) (cs : List AV) : Prop :=
  ∀ (c : Nat) (x : AV), cs[c]? = some x → ∃ v, w.cell? (a.add c) = some v ∧ RepS S x v
theorem CellsAt.drop {S : Sta} {w : World} {g o : Nat} {cs : List AV} (h : CellsAt S w ⟨g, o, none⟩ cs) (n : Nat) : CellsAt S w ⟨g, o + n, none⟩ (cs.drop n) := by
  intro c x hx
  rw [List.getElem?_drop] at hx
  obtain ⟨v, hv, hr⟩ := h (n + c) x hx
  refine ⟨v, ?_, hr⟩
  rw [Addr.add_lit] at hv ⊢
  rw [Nat.add_assoc]; exact hv
theorem CellsAt.load {S : Sta} {P : Program} {w : World} {a : Addr} {cs : List AV} (h : CellsAt S w a cs) {n : Nat} (hn : n ≤ cs.length) :
    ∃ vs : List Value, (loadCells a n).run P w = .ok vs.toArray w ∧ RepL S (cs.take n) vs := by
  refine ⟨(List.range n).map fun c => (w.cell? (a.add c)).getD undef, ?_, ?_, ?_⟩
  · exact run_loadCells w a n (fun c => (w.cell? (a.add c)).getD undef) fun j hj => by
      obtain ⟨v, hv, _⟩ := h j _ (List.getElem?_eq_getElem (by omega))
      simp [hv]
  · simp; omega
  · intro i x v hx hv
    simp only [List.getElem?_take] at hx
    split at hx
    · rename_i hi
      obtain ⟨u, hu, hr⟩ := h i x hx
      simp [hi, hu] at hv
      subst hv
      exact hr
    · simp at hx
theorem CellsAt.loadVar {S : Sta} {P : Program} {w : World} {a : Addr} {cs : List AV} (h : CellsAt S w a cs) {t : TypeId} {ag : Bool} {sz : Nat} (hs : sizeT P t = some sz) (ha : aggT P t = some ag) {x : AV}
    (hx : (if ag = true then (if sz ≤ cs.length then some (.agg (cs.take sz)) else none) else cs[0]?) = some x) :
    ∃ v, (loadVar t a).run P w = .ok v w ∧ Rep1 S x v := by
  cases ag with
  | true =>
    simp only [if_true] at hx
    split at hx
    · rename_i hle
      simp at hx
      subst hx
      obtain ⟨vs, hr, hl⟩ := h.load (P := P) hle
      exact ⟨.agg vs.toArray, by simp [Go.loadVar, run_aggT w ha, run_sizeT w hs, hr], .agg _ _ hl⟩
    · simp at hx
  | false =>
    simp at hx
    obtain ⟨v, hv, hr⟩ := h 0 x (by simpa using hx)
    simp only [Addr.add_zero'] at hv
    exact ⟨v, by simp [Go.loadVar, run_aggT w ha, hv], .s hr⟩

theorem curBlk_spec {H : Heap} {b v sz : Nat} {k : Blk} (h : curBlk H b v sz = some k) : H[b]? = some k ∧ k.live = true ∧ k.ver = v ∧ k.sz = sz := by
  unfold curBlk at h
  cases hk : H[b]? with
  | none => simp [hk] at h
  | some k' =>
    simp only [hk] at h
    split at h
    · rename_i hc
      cases h
      exact ⟨rfl, hc⟩
    · cases h

/-- the cells of a row of a live block -/
theorem BlkAt.cells {S : Sta} {w : World} {B b : Nat} {k : Blk} {g rc : Nat} {cur : Array Value} (h : BlkAt S w B b k g rc cur) {i : Nat} {row : List AV} (hi : k.els[i]? = some row) : CellsAt S w ⟨g, i * k.sz, none⟩ row := by
  intro c x hx
  obtain ⟨u, hu, hr⟩ := h.cell i c row x hi hx
  exact ⟨u, by rw [cell_at h.heap]; exact hu, hr⟩

/-- what is behind a pointer that may be read -/
theorem ptr_cells {S : Sta} {w : World} {B : Nat} (hW : WRel S w B) {b v sz i off : Nat} {u : Value} (hr : RepV S (.ptr b v sz i off) u) {k : Blk} (hk : curBlk S.H b v sz = some k) {row : List AV} (hrow : k.els[i]? = some row) :
    ∃ g rc cur, u = .pointer (some ⟨g, i * sz + off, none⟩) ∧ BlkAt S w B b k g rc cur ∧ CellsAt S w ⟨g, i * sz + off, none⟩ (row.drop off) := by
  obtain ⟨h1, h2, h3, h4⟩ := curBlk_spec hk
  obtain ⟨g, rc, cur, hB⟩ := hW.blk b k h1 h2
  cases hr with
  | one hr => cases hr with
    | s hr => cases hr with
      | frz hr => cases hr
      | ptr _ _ _ _ _ a k' hk' hv hc =>
        rw [h1] at hk'
        cases hk'
        obtain ⟨g', rc', hm, rfl⟩ := hc h2 h3 h4
        rw [hB.mu] at hm
        cases hm
        refine ⟨g, rc, cur, rfl, hB, ?_⟩
        have := (hB.cells hrow).drop off
        rw [h4] at this
        exact this
theorem fptr_cells {S : Sta} {w : World} {B : Nat} (hW : WRel S w B) {cs : List AV} {u : Value} (hr : RepV S (.fptr cs) u) :
    ∃ g o, u = .pointer (some ⟨g, o, none⟩) ∧ CellsAt S w ⟨g, o, none⟩ cs := by
  cases hr with
  | one hr => cases hr with
    | s hr => cases hr with
      | frz hr => cases hr with
        | fptr _ g off cur uu hM h1 h2 =>
          refine ⟨g, off, rfl, fun c x hx => ?_⟩
          obtain ⟨e, fr, he⟩ := hW.mem g cur hM
          exact ⟨uu c, by rw [cell_at he]; exact h1 c x hx, .frz (h2 c x hx)⟩

theorem load_sound {P : Program} {S : Sta} {w : World} {B : Nat} (hW : WRel S w B) {p : AV} {u : Value} (hr : RepV S p u) {t : TypeId} {ag : Bool} {sz : Nat} (hs : sizeT P t = some sz) (ha : aggT P t = some ag) {x : AV}
    (hx : evLoad ag sz S.H p = some x) : ∃ a, u = .pointer (some a) ∧ ∃ v, (loadVar t a).run P w = .ok v w ∧ Rep1 S x v := by
  unfold evLoad at hx
  split at hx
  · rename_i b v s i off
    split at hx
    · rename_i k hk
      split at hx
      · rename_i row hrow
        obtain ⟨g, rc, cur, rfl, hB, hc⟩ := ptr_cells hW hr hk hrow
        refine ⟨_, rfl, hc.loadVar hs ha ?_⟩
        cases ag with
        | true =>
          simp only [if_true] at hx ⊢
          split at hx
          · rw [if_pos (by simp; omega)]; exact hx
          · cases hx
        | false =>
          simp only [Bool.false_eq_true, if_false] at hx ⊢
          rw [List.getElem?_drop]; exact hx
      · cases hx
    · cases hx
  · obtain ⟨g, o, rfl, hc⟩ := fptr_cells hW hr
    exact ⟨_, rfl, hc.loadVar hs ha hx⟩
  · cases hx

/-- rows in memory: a slice's -/
structure RowsAt (S : Sta) (w : World) (a : Option Addr) (sz : Nat) (l : List (List AV)) : Prop where
  row : ∀ (j : Nat) (r : List AV), l[j]? = some r → r.length = sz
  base : l ≠ [] → ∃ x, a = some x
  cell : ∀ x, a = some x → ∀ (j c : Nat) (r : List AV) (y : AV), l[j]? = some r → r[c]? = some y → ∃ v, w.cell? (x.add (j * sz + c)) = some v ∧ RepS S y v

theorem rows_sound {S : Sta} {w : World} {B : Nat} (hW : WRel S w B) {s : AV} {u : Value} (hr : RepV S s u) {l : List (List AV)} (hl : rowsOf S.H s = some l) :
    ∃ a cap sz, u = .slice a l.length cap ∧ RowsAt S w a sz l := by
  unfold rowsOf at hl
  split at hl
  · cases hl
    cases hr with
    | one hr => cases hr with
      | s hr => cases hr with
        | frz hr => cases hr with
          | lst0 a cap => exact ⟨a, cap, 0, rfl, by simp, by simp, by simp⟩
          | lst _ g off sz cap cur uu h1 h2 h3 h4 h5 h6 =>
            refine ⟨_, cap, sz, rfl, h4, fun _ => ⟨_, rfl⟩, fun x hx j c r y hj hc => ?_⟩
            cases hx
            obtain ⟨e, fr, he⟩ := hW.mem g cur h2
            exact ⟨uu j c, by rw [cell_at he]; exact h5 j c r y hj hc, .frz (h6 j c r y hj hc)⟩
  · cases hl
    cases hr with
    | one hr => cases hr with
      | s hr => cases hr with
        | frz hr => cases hr with
          | nils => exact ⟨none, 0, 0, rfl, by simp, by simp, by simp⟩
  · cases hl
    cases hr with
    | one hr => cases hr with
      | s hr => cases hr with
        | frz hr => cases hr with
          | emp a cap => exact ⟨some a, cap, 0, rfl, by simp, by simp, by simp⟩
  · cases hl
    cases hr with
    | one hr => cases hr with
      | s hr => cases hr with
        | frz hr => cases hr with
          | nil0 a => exact ⟨a, 0, 0, rfl, by simp, by simp, by simp⟩
  · cases hl
    cases hr with
    | one hr => cases hr with
      | s hr => cases hr with
        | frz hr => cases hr
        | ref _ _ _ _ _ a cap k => exact ⟨a, cap, 0, rfl, by simp, by simp, by simp⟩
  · rename_i b v sz off len
    cases hk : curBlk S.H b v sz with
    | none => simp [hk] at hl
    | some k =>
      simp only [hk, Option.map_some, Option.some.injEq] at hl
      obtain ⟨h1, h2, h3, h4⟩ := curBlk_spec hk
      obtain ⟨g, rc, cur, hB⟩ := hW.blk b k h1 h2
      cases hr with
      | one hr => cases hr with
        | s hr => cases hr with
          | frz hr => cases hr
          | ref _ _ _ _ _ a cap k' hk' hv hc hs hR =>
            rw [h1] at hk'
            cases hk'
            obtain ⟨hlen, hat⟩ := hR h2 h3 h4
            obtain ⟨g', rc', hm, ha, hcap⟩ := hat (.inl (Nat.succ_pos _))
            rw [hB.mu] at hm
            cases hm
            have hll : l.length = len.succ := by rw [← hl]; simp; omega
            rw [← hll]
            refine ⟨a, cap, sz, rfl, ?_, fun _ => ⟨_, ha⟩, ?_⟩
            · intro j r hj
              rw [← hl, List.getElem?_take, List.getElem?_drop] at hj
              split at hj
              · rw [← h4]; exact hB.row _ _ hj
              · cases hj
            · intro x hx j c r y hj hy
              rw [ha] at hx
              cases hx
              rw [← hl, List.getElem?_take, List.getElem?_drop] at hj
              split at hj
              · obtain ⟨u, hu, hru⟩ := hB.cell (off + j) c r y hj hy
                refine ⟨u, ?_, hru⟩
                rw [cell_at hB.heap, ← hu, h4, Nat.add_mul, Nat.add_assoc]
              · cases hj
  · rename_i b v sz off len
    cases hk : curBlk S.H b v sz with
    | none => simp [hk] at hl
    | some k =>
      simp only [hk, Option.map_some, Option.some.injEq] at hl
      obtain ⟨h1, h2, h3, h4⟩ := curBlk_spec hk
      obtain ⟨g, rc, cur, hB⟩ := hW.blk b k h1 h2
      cases hr with
      | one hr => cases hr with
        | s hr => cases hr with
          | frz hr => cases hr
          | cref _ _ _ _ _ a k' hk' hv hR =>
            rw [h1] at hk'
            cases hk'
            obtain ⟨hlen, g', rc', hm, ha⟩ := hR h2 h3 h4
            rw [hB.mu] at hm
            cases hm
            have hll : l.length = len := by rw [← hl]; simp; omega
            rw [← hll]
            refine ⟨some a, l.length, sz, rfl, ?_, fun _ => ⟨_, rfl⟩, ?_⟩
            · intro j r hj
              rw [← hl, List.getElem?_take, List.getElem?_drop] at hj
              split at hj
              · rw [← h4]; exact hB.row _ _ hj
              · cases hj
            · intro x hx j c r y hj hy
              cases hx
              subst ha
              rw [← hl, List.getElem?_take, List.getElem?_drop] at hj
              split at hj
              · obtain ⟨u, hu, hru⟩ := hB.cell (off + j) c r y hj hy
                refine ⟨u, ?_, hru⟩
                rw [cell_at hB.heap, ← hu, h4, Nat.add_mul, Nat.add_assoc]
              · cases hj
  · cases hl

/-- the values of rows, one behind the other -/
theorem RowsAt.vals {S : Sta} {w : World} {a : Addr} {sz : Nat} {l : List (List AV)} (h : RowsAt S w (some a) sz l) : ∃ news : List Value, news.length = l.length * sz ∧
    (∀ j v, news[j]? = some v → w.cell? (a.add j) = some v) ∧ (∀ v ∈ news, v.oneCell' = true) ∧
    ∀ (j c : Nat) (r : List AV) (y : AV), l[j]? = some r → r[c]? = some y → ∃ v, news[j * sz + c]? = some v ∧ RepS S y v := by
  have key : ∀ i, i < l.length * sz → ∃ v, w.cell? (a.add i) = some v ∧ v.oneCell' = true := by
    intro i hi
    have hpos : 0 < sz := by
      rcases Nat.eq_zero_or_pos sz with h0 | h0
      · rw [h0] at hi; simp at hi
      · exact h0
    have hj : i / sz < l.length := (Nat.div_lt_iff_lt_mul hpos).2 hi
    have hlen := h.row (i / sz) l[i / sz] (List.getElem?_eq_getElem hj)
    have hc : i % sz < (l[i / sz]).length := by rw [hlen]; exact Nat.mod_lt _ hpos
    obtain ⟨v, hv, hr⟩ := h.cell a rfl (i / sz) (i % sz) _ _ (List.getElem?_eq_getElem hj) (List.getElem?_eq_getElem hc)
    refine ⟨v, ?_, hr.oneCell⟩
    rw [← hv]
    congr 2
    have := Nat.div_add_mod i sz
    rw [Nat.mul_comm] at this
    exact this.symm
  refine ⟨(List.range (l.length * sz)).map fun i => (w.cell? (a.add i)).getD undef, by simp, fun j v hv => ?_, fun v hv => ?_, fun j c r y hj hc => ?_⟩
  · by_cases hj : j < l.length * sz
    · obtain ⟨u, hu, _⟩ := key j hj
      simp [hj, hu] at hv
      rw [hu, hv]
    · have : (l.length * sz) ≤ j := by omega
      simp [this] at hv
  · obtain ⟨i, hi, rfl⟩ := List.mem_map.1 hv
    obtain ⟨u, hu, h1⟩ := key i (by simpa using hi)
    simp [hu, h1]
  · obtain ⟨v, hv, hr⟩ := h.cell a rfl j c r y hj hc
    have hjl := (List.getElem?_eq_some_iff.1 hj).1
    have hcl := (List.getElem?_eq_some_iff.1 hc).1
    have := h.row j r hj
    have hlt : j * sz + c < l.length * sz := by
      calc j * sz + c < j * sz + sz := by omega
        _ = (j + 1) * sz := by rw [Nat.add_mul, Nat.one_mul]
        _ ≤ l.length * sz := Nat.mul_le_mul_right _ hjl
    exact ⟨v, by simp [hlt, hv], hr⟩
end Go.Proofs.YtbdpceigmnpoaaaGreatDoor.Ev
