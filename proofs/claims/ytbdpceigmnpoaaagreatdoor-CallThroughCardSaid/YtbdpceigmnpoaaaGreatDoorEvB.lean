/- What abstract values and the abstract heap stand for in the model's memory, and what time does to it. -/
import Derived.Test.YtbdpceigmnpoaaaGreatDoorEvA
import Derived.Below
set_option linter.unusedSimpArgs false
set_option linter.unusedVariables false
namespace Go.Proofs.YtbdpceigmnpoaaaGreatDoor.Ev
open Go.RowKit

abbrev Mem := Nat → Option (Array Value)

inductive RepF (M : Mem) : AV → Value → Prop
  | int (k : IntKind) (n : Int) : RepF M (.int k n) (.int k n)
  | bool (b : Bool) : RepF M (.bool b) (.bool b)
  | str (s : ByteArray) : RepF M (.str s) (.string s)
  | nils : RepF M .nils (.slice none 0 0)
  | emp (a : Addr) (cap : Nat) : RepF M .emp (.slice (some a) 0 cap)
  | nil0 (a : Option Addr) : RepF M .nil0 (.slice a 0 0)
  | lst0 (a : Option Addr) (cap : Nat) : (a = none → cap = 0) → RepF M (.lst []) (.slice a 0 cap)
  | lst (l : List (List AV)) (g off sz cap : Nat) (cur : Array Value) (u : Nat → Nat → Value) : l ≠ [] → M g = some cur → l.length ≤ cap →
      (∀ (j : Nat) (row : List AV), l[j]? = some row → row.length = sz) →
      (∀ (j c : Nat) (row : List AV) (x : AV), l[j]? = some row → row[c]? = some x → cur[off + (j * sz + c)]? = some (u j c)) →
      (∀ (j c : Nat) (row : List AV) (x : AV), l[j]? = some row → row[c]? = some x → RepF M x (u j c)) →
      RepF M (.lst l) (.slice (some ⟨g, off, none⟩) l.length cap)
  | fptr (cs : List AV) (g off : Nat) (cur : Array Value) (u : Nat → Value) : M g = some cur →
      (∀ (c : Nat) (x : AV), cs[c]? = some x → cur[off + c]? = some (u c)) →
      (∀ (c : Nat) (x : AV), cs[c]? = some x → RepF M x (u c)) →
      RepF M (.fptr cs) (.pointer (some ⟨g, off, none⟩))
  | nilptr : RepF M .nilptr (.pointer none)
  | nilfn : RepF M .nilfn .nilFunc
  | fn (f : Nat) : RepF M (.fn f []) (.func (.func f) #[] #[])
  | bnd (f : Nat) (cs : List AV) (vs : List Value) : cs.length = vs.length → (∀ (i : Nat) (x : AV) (v : Value), cs[i]? = some x → vs[i]? = some v → RepF M x v) →
      RepF M (.fn f [.tup [], .agg cs]) (.func (.func f) #[.agg vs.toArray] #[])

theorem RepF.mono {M M' : Mem} (hM : ∀ g cur, M g = some cur → M' g = some cur) {a : AV} {v : Value} (h : RepF M a v) : RepF M' a v := by
  induction h with
  | int k n => exact .int k n
  | bool b => exact .bool b
  | str s => exact .str s
  | nils => exact .nils
  | emp a c => exact .emp a c
  | nil0 a => exact .nil0 a
  | lst0 a c h => exact .lst0 a c h
  | lst l g off sz cap cur u h1 h2 h3 h4 h5 _ ih => exact .lst l g off sz cap cur u h1 (hM _ _ h2) h3 h4 h5 ih
  | fptr cs g off cur u h1 h2 _ ih => exact .fptr cs g off cur u (hM _ _ h1) h2 ih
  | nilptr => exact .nilptr
  | nilfn => exact .nilfn
  | fn f => exact .fn f
  | bnd f cs vs h1 _ ih => exact .bnd f cs vs h1 ih

theorem RepF.oneCell {M : Mem} {a : AV} {v : Value} (h : RepF M a v) : v.oneCell' = true := by cases h <;> rfl

structure Sta where
  mu : List (Nat × Nat)
  H : Heap
  M : Mem

/-- where a slice of a live block lies -/
def RefAt (S : Sta) (b sz off len : Nat) (k : Blk) (a : Option Addr) (cap : Nat) : Prop :=
  off + len ≤ k.els.length ∧ (0 < len ∨ off = 0 → ∃ g rc, S.mu[b]? = some (g, rc) ∧ a = some ⟨g, off * sz, none⟩ ∧ off + cap = rc)

inductive RepS (S : Sta) : AV → Value → Prop
  | frz {a : AV} {v : Value} : RepF S.M a v → RepS S a v
  | ref (b v sz off len : Nat) (a : Option Addr) (cap : Nat) (k : Blk) : S.H[b]? = some k → v ≤ k.ver → len ≤ cap → a.isSome = true →
      (k.live = true → k.ver = v → k.sz = sz → RefAt S b sz off len k a cap) → RepS S (.ref b v sz off len) (.slice a len cap)
  | cref (b v sz off len : Nat) (a : Addr) (k : Blk) : S.H[b]? = some k → v ≤ k.ver →
      (k.live = true → k.ver = v → k.sz = sz → off + len ≤ k.els.length ∧ ∃ g rc, S.mu[b]? = some (g, rc) ∧ a = ⟨g, off * sz, none⟩) → RepS S (.cref b v sz off len) (.slice (some a) len len)
  | ptr (b v sz i off : Nat) (a : Addr) (k : Blk) : S.H[b]? = some k → v ≤ k.ver →
      (k.live = true → k.ver = v → k.sz = sz → ∃ g rc, S.mu[b]? = some (g, rc) ∧ a = ⟨g, i * sz + off, none⟩) → RepS S (.ptr b v sz i off) (.pointer (some a))
  | fn (f : Nat) (cap : List AV) (vs : List Value) : cap.length = vs.length → (∀ (i : Nat) (x : AV) (v : Value), cap[i]? = some x → vs[i]? = some v → RepS S x v) →
      RepS S (.fn f cap) (.func (.func f) #[] vs.toArray)

theorem RepS.oneCell {S : Sta} {a : AV} {v : Value} (h : RepS S a v) : v.oneCell' = true := by
  cases h with
  | frz h => exact h.oneCell
  | _ => rfl

def RepL (S : Sta) (cs : List AV) (vs : List Value) : Prop :=
  cs.length = vs.length ∧ ∀ (i : Nat) (x : AV) (v : Value), cs[i]? = some x → vs[i]? = some v → RepS S x v

inductive Rep1 (S : Sta) : AV → Value → Prop
  | s {a : AV} {v : Value} : RepS S a v → Rep1 S a v
  | agg (cs : List AV) (vs : List Value) : RepL S cs vs → Rep1 S (.agg cs) (.agg vs.toArray)

inductive RepV (S : Sta) : AV → Value → Prop
  | one {a : AV} {v : Value} : Rep1 S a v → RepV S a v
  | tup (cs : List AV) (vs : List Value) : cs.length = vs.length → (∀ (i : Nat) (x : AV) (v : Value), cs[i]? = some x → vs[i]? = some v → Rep1 S x v) →
      RepV S (.tup cs) (.tuple vs.toArray)

structure Ext (S S' : Sta) : Prop where
  mem : ∀ g cur, S.M g = some cur → S'.M g = some cur
  len : S.H.length ≤ S'.H.length
  blk : ∀ (b : Nat) (k : Blk), S.H[b]? = some k → ∃ k', S'.H[b]? = some k' ∧ k.ver ≤ k'.ver ∧
    (k'.live = true → k'.ver = k.ver → k.live = true ∧ S'.mu[b]? = S.mu[b]? ∧ k'.sz = k.sz ∧ k.els.length ≤ k'.els.length)

theorem Ext.refl (S : Sta) : Ext S S := ⟨fun _ _ h => h, Nat.le_refl _, fun _ k hk => ⟨k, hk, Nat.le_refl _, fun h _ => ⟨h, rfl, rfl, Nat.le_refl _⟩⟩⟩
theorem Ext.trans {S S' S'' : Sta} (h : Ext S S') (h' : Ext S' S'') : Ext S S'' := by
  refine ⟨fun g c hc => h'.mem g c (h.mem g c hc), Nat.le_trans h.len h'.len, fun b k hk => ?_⟩
  obtain ⟨k', hk', hv, hl⟩ := h.blk b k hk
  obtain ⟨k'', hk'', hv', hl'⟩ := h'.blk b k' hk'
  refine ⟨k'', hk'', Nat.le_trans hv hv', fun a e => ?_⟩
  have e' : k''.ver = k'.ver := by omega
  obtain ⟨a1, a2, a3, a4⟩ := hl' a e'
  obtain ⟨b1, b2, b3, b4⟩ := hl a1 (by omega)
  exact ⟨b1, a2.trans b2, a3.trans b3, Nat.le_trans b4 a4⟩

theorem RepS.ext {S S' : Sta} (hE : Ext S S') {a : AV} {v : Value} (h : RepS S a v) : RepS S' a v := by
  induction h with
  | frz h => exact .frz (h.mono hE.mem)
  | ref b v sz off len a cap k hk hv hc hs hr =>
    obtain ⟨k', hk', hv', hl⟩ := hE.blk b k hk
    refine .ref b v sz off len a cap k' hk' (Nat.le_trans hv hv') hc hs fun h1 h2 h3 => ?_
    obtain ⟨b1, b2, b3, b4⟩ := hl h1 (by omega)
    obtain ⟨c1, c2⟩ := hr b1 (by omega) (by omega)
    refine ⟨by omega, fun h => ?_⟩
    obtain ⟨g, rc, d1, d2⟩ := c2 h
    exact ⟨g, rc, b2.trans d1, d2⟩
  | cref b v sz off len a k hk hv hr =>
    obtain ⟨k', hk', hv', hl⟩ := hE.blk b k hk
    refine .cref b v sz off len a k' hk' (Nat.le_trans hv hv') fun h1 h2 h3 => ?_
    obtain ⟨b1, b2, b3, b4⟩ := hl h1 (by omega)
    obtain ⟨c1, g, rc, d1, d2⟩ := hr b1 (by omega) (by omega)
    exact ⟨by omega, g, rc, b2.trans d1, d2⟩
  | ptr b v sz i off a k hk hv hr =>
    obtain ⟨k', hk', hv', hl⟩ := hE.blk b k hk
    refine .ptr b v sz i off a k' hk' (Nat.le_trans hv hv') fun h1 h2 h3 => ?_
    obtain ⟨b1, b2, b3, b4⟩ := hl h1 (by omega)
    obtain ⟨g, rc, d1, d2⟩ := hr b1 (by omega) (by omega)
    exact ⟨g, rc, b2.trans d1, d2⟩
  | fn f cap vs hl _ ih => exact .fn f cap vs hl ih

theorem RepL.ext {S S' : Sta} (hE : Ext S S') {cs : List AV} {vs : List Value} (h : RepL S cs vs) : RepL S' cs vs :=
  ⟨h.1, fun i x v hx hv => (h.2 i x v hx hv).ext hE⟩
theorem Rep1.ext {S S' : Sta} (hE : Ext S S') {a : AV} {v : Value} (h : Rep1 S a v) : Rep1 S' a v := by
  cases h with
  | s h => exact .s (h.ext hE)
  | agg cs vs h => exact .agg cs vs (h.ext hE)
theorem RepV.ext {S S' : Sta} (hE : Ext S S') {a : AV} {v : Value} (h : RepV S a v) : RepV S' a v := by
  cases h with
  | one h => exact .one (h.ext hE)
  | tup cs vs hl h => exact .tup cs vs hl fun i x v hx hv => (h i x v hx hv).ext hE

/-- no cells -/
def notCells : Obj → Bool
  | .cells .. => false
  | _ => true
/-- below block number B the world is as it was; whatever is no cells lies as it lay -/
structure Bel (B : Nat) (w w' : World) : Prop where
  os : w'.os = w.os
  tape : w'.tape = w.tape
  output : w'.output = w.output
  size : w.heap.size ≤ w'.heap.size
  block : ∀ k, k < B → w'.heap[k]? = w.heap[k]?
  others : ∀ (k : Nat) (o : Obj), w.heap[k]? = some o → notCells o = true → w'.heap[k]? = some o
theorem Bel.refl (B : Nat) (w : World) : Bel B w w := ⟨rfl, rfl, rfl, Nat.le_refl _, fun _ _ => rfl, fun _ _ h _ => h⟩
theorem Bel.trans {B : Nat} {a b c : World} (h : Bel B a b) (k : Bel B b c) : Bel B a c :=
  ⟨k.os.trans h.os, k.tape.trans h.tape, k.output.trans h.output, Nat.le_trans h.size k.size, fun i hi => (k.block i hi).trans (h.block i hi), fun i o ho hn => k.others i o (h.others i o ho hn) hn⟩
theorem Bel.mono {B B' : Nat} {w w' : World} (h : Bel B w w') (hB : B' ≤ B) : Bel B' w w' := ⟨h.os, h.tape, h.output, h.size, fun k hk => h.block k (Nat.lt_of_lt_of_le hk hB), h.others⟩
theorem Bel.drew {B : Nat} {a w : World} (h : Bel B a w) : Bel B a w.drew := ⟨h.os, h.tape, h.output, h.size, h.block, h.others⟩
theorem Bel.alloc {B : Nat} {a w : World} (h : Bel B a w) (hB : B ≤ w.heap.size) (o : Obj) : Bel B a (w.alloc o) :=
  h.trans ⟨rfl, rfl, rfl, by simp, fun k hk => Below.heap_alloc _ _ _ (by omega), fun k o' hk _ => (Below.heap_alloc w o k (Array.getElem?_eq_some_iff.1 hk).1).trans hk⟩
theorem Bel.to {B : Nat} {w w' : World} (h : Bel B w w') : Below B w w' := ⟨h.os, h.tape, h.output, h.size, h.block⟩
theorem Bel.of {B : Nat} {w w' : World} (h : Below w.heap.size w w') (hB : B ≤ w.heap.size) : Bel B w w' :=
  ⟨h.os, h.tape, h.output, h.size, fun k hk => h.block k (by omega), fun k o hk _ => (h.block k (Array.getElem?_eq_some_iff.1 hk).1).trans hk⟩
theorem setRow_others (w : World) (g : Nat) (cs : Array Value) (k : Nat) (o : Obj) (hk : w.heap[k]? = some o) (ho : notCells o = true) : (w.setRow g cs).heap[k]? = some o := by
  by_cases e : k = g
  · subst e
    obtain ⟨hlt, hv⟩ := Array.getElem?_eq_some_iff.1 hk
    show (w.heap.modify k _)[k]? = some o
    rw [Array.getElem?_eq_getElem (by rw [Array.size_modify]; exact hlt), Array.getElem_modify_self, hv]
    cases o <;> first | rfl | (simp [notCells] at ho)
  · rw [setRow_other w g k cs e]; exact hk

/-- a live block in memory -/
structure BlkAt (S : Sta) (w : World) (B : Nat) (b : Nat) (k : Blk) (g rc : Nat) (cur : Array Value) : Prop where
  mu : S.mu[b]? = some (g, rc)
  heap : w.heap[g]? = some (.cells cur k.ty (0, 0))
  size : cur.size = rc * k.sz
  le : k.els.length ≤ rc
  max : rc ≤ maxLen
  base : B ≤ g
  mem : S.M g = none
  row : ∀ (j : Nat) (r : List AV), k.els[j]? = some r → r.length = k.sz
  cell : ∀ (j c : Nat) (r : List AV) (x : AV), k.els[j]? = some r → r[c]? = some x → ∃ u, cur[j * k.sz + c]? = some u ∧ RepS S x u

/-- what is known of the program's package variables -/
def GlobOk (M : Mem) : Prop := ∃ m, M 0 = some #[.int .i64 m]
theorem GlobOk.mono {M M' : Mem} (hM : ∀ g cur, M g = some cur → M' g = some cur) (h : GlobOk M) : GlobOk M' := by
  first | exact trivial | (obtain ⟨m, h⟩ := h; exact ⟨m, hM _ _ h⟩)
structure WRel (S : Sta) (w : World) (B : Nat) : Prop where
  len : S.mu.length = S.H.length
  blk : ∀ (b : Nat) (k : Blk), S.H[b]? = some k → k.live = true → ∃ g rc cur, BlkAt S w B b k g rc cur
  inj : ∀ (b b' : Nat) (k k' : Blk) (g rc rc' : Nat), S.H[b]? = some k → k.live = true → S.H[b']? = some k' → k'.live = true → S.mu[b]? = some (g, rc) → S.mu[b']? = some (g, rc') → b = b'
  mem : ∀ g cur, S.M g = some cur → ∃ e fr, w.heap[g]? = some (.cells cur e fr)
  base : B ≤ w.heap.size
  glob : GlobOk S.M

theorem WRel.lt {S : Sta} {w : World} {B : Nat} (h : WRel S w B) {b : Nat} {k : Blk} {g rc : Nat} {cur : Array Value} (hb : BlkAt S w B b k g rc cur) : g < w.heap.size :=
  (Array.getElem?_eq_some_iff.1 hb.heap).1
theorem WRel.mem_lt {S : Sta} {w : World} {B : Nat} (h : WRel S w B) {g : Nat} {cur : Array Value} (hg : S.M g = some cur) : g < w.heap.size := by
  obtain ⟨e, fr, he⟩ := h.mem g cur hg
  exact (Array.getElem?_eq_some_iff.1 he).1

/-- a world that differs in nothing that we hold -/
theorem WRel.same {S : Sta} {w w' : World} {B : Nat} (h : WRel S w B) (hs : w.heap.size ≤ w'.heap.size) (hh : ∀ g, g < w.heap.size → w'.heap[g]? = w.heap[g]?) : WRel S w' B := by
  refine ⟨h.len, fun b k hk hl => ?_, h.inj, fun g cur hg => ?_, Nat.le_trans h.base hs, h.glob⟩
  · obtain ⟨g, rc, cur, hb⟩ := h.blk b k hk hl
    exact ⟨g, rc, cur, { hb with heap := (hh g (h.lt hb)).trans hb.heap }⟩
  · obtain ⟨e, fr, he⟩ := h.mem g cur hg
    exact ⟨e, fr, (hh g (h.mem_lt hg)).trans he⟩
theorem WRel.drew {S : Sta} {w : World} {B : Nat} (h : WRel S w B) : WRel S w.drew B := h.same (Nat.le_refl _) fun _ _ => rfl
theorem WRel.alloc {S : Sta} {w : World} {B : Nat} (h : WRel S w B) (o : Obj) : WRel S (w.alloc o) B := h.same (by simp) fun g hg => heap_alloc_old w o g hg

/-- a new block of the abstract heap behind a new block of memory -/
theorem WRel.push {S : Sta} {w : World} {B : Nat} (h : WRel S w B) (ty sz rc : Nat) (els : List (List AV)) (cur : Array Value)
    (hsz : cur.size = rc * sz) (hle : els.length ≤ rc) (hmax : rc ≤ maxLen)
    (hrow : ∀ (j : Nat) (r : List AV), els[j]? = some r → r.length = sz)
    (hcell : ∀ (j c : Nat) (r : List AV) (x : AV), els[j]? = some r → r[c]? = some x → ∃ u, cur[j * sz + c]? = some u ∧ RepS S x u) :
    ∃ S' : Sta, S'.H = S.H ++ [⟨0, true, ty, sz, els⟩] ∧ S'.mu = S.mu ++ [(w.heap.size, rc)] ∧ S'.M = S.M ∧ Ext S S' ∧ WRel S' (w.alloc (.cells cur ty)) B := by
  refine ⟨⟨S.mu ++ [(w.heap.size, rc)], S.H ++ [⟨0, true, ty, sz, els⟩], S.M⟩, rfl, rfl, rfl, ?_⟩
  have hE : Ext S ⟨S.mu ++ [(w.heap.size, rc)], S.H ++ [⟨0, true, ty, sz, els⟩], S.M⟩ := by
    refine ⟨fun _ _ h => h, by simp, fun b k hk => ⟨k, ?_, Nat.le_refl _, fun hl _ => ⟨hl, ?_, rfl, Nat.le_refl _⟩⟩⟩
    · have := (List.getElem?_eq_some_iff.1 hk).1
      simp only [List.getElem?_append_left this]; exact hk
    · have := (List.getElem?_eq_some_iff.1 hk).1
      exact List.getElem?_append_left (by rw [h.len]; exact this)
  have hold : ∀ (b : Nat) (k : Blk), b < S.H.length → (S.H ++ [(⟨0, true, ty, sz, els⟩ : Blk)])[b]? = some k → S.H[b]? = some k := fun b k hb hk => by rwa [List.getElem?_append_left hb] at hk
  have hcase : ∀ (b : Nat) (k : Blk), (S.H ++ [(⟨0, true, ty, sz, els⟩ : Blk)])[b]? = some k → (b < S.H.length ∧ S.H[b]? = some k) ∨ (b = S.H.length ∧ k = ⟨0, true, ty, sz, els⟩) := by
    intro b k hk
    by_cases hb : b < S.H.length
    · exact .inl ⟨hb, hold b k hb hk⟩
    · rw [List.getElem?_append_right (by omega)] at hk
      have h0 : b - S.H.length = 0 := by
        have := (List.getElem?_eq_some_iff.1 hk).1; simp at this; omega
      rw [h0] at hk
      simp at hk
      exact .inr ⟨by omega, hk.symm⟩
  have hmu : ∀ b, b < S.H.length → (S.mu ++ [(w.heap.size, rc)])[b]? = S.mu[b]? := fun b hb => List.getElem?_append_left (by rw [h.len]; exact hb)
  have hmu' : (S.mu ++ [(w.heap.size, rc)])[S.H.length]? = some (w.heap.size, rc) := by
    rw [List.getElem?_append_right (by rw [h.len]; exact Nat.le_refl _)]; simp [h.len]
  refine ⟨hE, ?_, ?_, ?_, ?_, ?_, h.glob⟩
  · simp [h.len]
  · intro b k hk hl
    rcases hcase b k hk with ⟨hb, hk'⟩ | ⟨rfl, rfl⟩
    · obtain ⟨g, rc', cur', hB⟩ := h.blk b k hk' hl
      refine ⟨g, rc', cur', ?_, ?_, hB.size, hB.le, hB.max, hB.base, hB.mem, hB.row, fun j c r x h1 h2 => ?_⟩
      · exact (hmu b hb).trans hB.mu
      · rw [heap_alloc_old w _ g (h.lt hB)]; exact hB.heap
      · obtain ⟨u, hu, hr⟩ := hB.cell j c r x h1 h2
        exact ⟨u, hu, hr.ext hE⟩
    · refine ⟨w.heap.size, rc, cur, hmu', heap_alloc_new w _, hsz, hle, hmax, h.base, ?_, hrow, fun j c r x h1 h2 => ?_⟩
      · cases hm : S.M w.heap.size with
        | none => rfl
        | some c => exact absurd (h.mem_lt hm) (Nat.lt_irrefl _)
      · obtain ⟨u, hu, hr⟩ := hcell j c r x h1 h2
        exact ⟨u, hu, hr.ext hE⟩
  · intro b b' k k' g r r' hk hl hk' hl' hm hm'
    rcases hcase b k hk with ⟨hb, hk⟩ | ⟨rfl, rfl⟩ <;> rcases hcase b' k' hk' with ⟨hb', hk'⟩ | ⟨rfl, rfl⟩
    · simp only [hmu b hb] at hm
      simp only [hmu b' hb'] at hm'
      exact h.inj b b' k k' g r r' hk hl hk' hl' hm hm'
    · simp only [hmu b hb] at hm
      simp only [hmu'] at hm'
      obtain ⟨g0, rc0, cur0, hB⟩ := h.blk b k hk hl
      have := h.lt hB
      rw [hB.mu] at hm
      simp at hm hm'
      omega
    · simp only [hmu b' hb'] at hm'
      simp only [hmu'] at hm
      obtain ⟨g0, rc0, cur0, hB⟩ := h.blk b' k' hk' hl'
      have := h.lt hB
      rw [hB.mu] at hm'
      simp at hm hm'
      omega
    · rfl
  · intro g cur' hg
    obtain ⟨e, fr, he⟩ := h.mem g cur' hg
    exact ⟨e, fr, by rw [heap_alloc_old w _ g (h.mem_lt hg)]; exact he⟩
  · simp; exact Nat.le_trans h.base (Nat.le_succ _)

/-- a live block is written: its rows, its version, where it lies -/
theorem WRel.write {S : Sta} {w w' : World} {B : Nat} (h : WRel S w B) {b : Nat} {k : Blk} {g rc : Nat} {cur : Array Value} (hk : S.H[b]? = some k) (hl : k.live = true) (hB : BlkAt S w B b k g rc cur)
    (ver : Nat) (els : List (List AV)) (hver : k.ver ≤ ver) (g' rc' : Nat) (cur' : Array Value)
    (hsame : ver = k.ver → g' = g ∧ rc' = rc ∧ k.els.length ≤ els.length)
    (hsz : cur'.size = rc' * k.sz) (hle : els.length ≤ rc') (hmax : rc' ≤ maxLen)
    (hg' : g' = g ∨ w.heap.size ≤ g') (hb' : B ≤ g') (hw : w'.heap[g']? = some (.cells cur' k.ty (0, 0))) (hs : w.heap.size ≤ w'.heap.size)
    (hh : ∀ x, x < w.heap.size → x ≠ g → w'.heap[x]? = w.heap[x]?)
    (hrow : ∀ (j : Nat) (r : List AV), els[j]? = some r → r.length = k.sz)
    (hcell : ∀ (S' : Sta), Ext S S' → ∀ (j c : Nat) (r : List AV) (x : AV), els[j]? = some r → r[c]? = some x → ∃ u, cur'[j * k.sz + c]? = some u ∧ RepS S' x u) :
    ∃ S' : Sta, S'.H = S.H.set b { k with ver := ver, els := els } ∧ S'.M = S.M ∧ S'.mu = S.mu.set b (g', rc') ∧ Ext S S' ∧ WRel S' w' B := by
  have hblt : b < S.H.length := (List.getElem?_eq_some_iff.1 hk).1
  refine ⟨⟨S.mu.set b (g', rc'), S.H.set b { k with ver := ver, els := els }, S.M⟩, rfl, rfl, rfl, ?_⟩
  have hE : Ext S ⟨S.mu.set b (g', rc'), S.H.set b { k with ver := ver, els := els }, S.M⟩ := by
    refine ⟨fun _ _ h => h, by simp, fun b' k' hk' => ?_⟩
    by_cases e : b' = b
    · subst e
      rw [hk] at hk'
      cases hk'
      refine ⟨{ k with ver := ver, els := els }, by simp [List.getElem?_set, hblt], hver, fun _ e => ⟨hl, ?_, rfl, ?_⟩⟩
      · obtain ⟨rfl, rfl, _⟩ := hsame e
        have : b' < S.mu.length := by rw [h.len]; exact hblt
        show (S.mu.set b' (g', rc'))[b']? = S.mu[b']?
        rw [hB.mu]
        simp [List.getElem?_set, this]
      · exact (hsame e).2.2
    · refine ⟨k', ?_, Nat.le_refl _, fun hl _ => ⟨hl, ?_, rfl, Nat.le_refl _⟩⟩
      · show (S.H.set b _)[b']? = some k'
        rw [List.getElem?_set_ne (fun x => e x.symm)]; exact hk'
      · show (S.mu.set b _)[b']? = S.mu[b']?
        rw [List.getElem?_set_ne (fun x => e x.symm)]
  have hother : ∀ (b' : Nat) (k' : Blk) (g0 rc0 : Nat) (cur0 : Array Value), b' ≠ b → S.H[b']? = some k' → k'.live = true → BlkAt S w B b' k' g0 rc0 cur0 → g0 ≠ g := by
    intro b' k' g0 rc0 cur0 hne hk' hl' hB' e
    subst e
    exact hne (h.inj b' b k' k g0 rc0 rc hk' hl' hk hl hB'.mu hB.mu)
  refine ⟨hE, ?_, ?_, ?_, ?_, ?_, h.glob⟩
  · simp [h.len]
  · intro b' k' hk' hl'
    by_cases e : b' = b
    · subst e
      simp [List.getElem?_set, hblt] at hk'
      subst hk'
      have hbmu : b' < S.mu.length := by rw [h.len]; exact hblt
      refine ⟨g', rc', cur', ?_, hw, hsz, hle, hmax, hb', ?_, hrow, hcell _ hE⟩
      · simp [List.getElem?_set, hbmu]
      · rcases hg' with rfl | hg'
        · exact hB.mem
        · cases hm : S.M g' with
          | none => rfl
          | some c => exact absurd (h.mem_lt hm) (by omega)
    · simp only [List.getElem?_set_ne (fun x => e x.symm)] at hk'
      obtain ⟨g0, rc0, cur0, hB'⟩ := h.blk b' k' hk' hl'
      have hne := hother b' k' g0 rc0 cur0 e hk' hl' hB'
      refine ⟨g0, rc0, cur0, ?_, ?_, hB'.size, hB'.le, hB'.max, hB'.base, hB'.mem, hB'.row, fun j c r x h1 h2 => ?_⟩
      · simp only [List.getElem?_set_ne (fun x => e x.symm)]; exact hB'.mu
      · rw [hh g0 (h.lt hB') hne]; exact hB'.heap
      · obtain ⟨u, hu, hr⟩ := hB'.cell j c r x h1 h2
        exact ⟨u, hu, hr.ext hE⟩
  · intro b1 b2 k1 k2 gg r1 r2 h1 l1 h2 l2 m1 m2
    have hbmu : b < S.mu.length := by rw [h.len]; exact hblt
    by_cases e1 : b1 = b <;> by_cases e2 : b2 = b
    · rw [e1, e2]
    · subst e1
      simp [List.getElem?_set, hbmu] at m1
      simp only [List.getElem?_set_ne (fun x => e2 x.symm)] at h2 m2
      obtain ⟨g0, rc0, cur0, hB'⟩ := h.blk b2 k2 h2 l2
      have hne := hother b2 k2 g0 rc0 cur0 e2 h2 l2 hB'
      rw [hB'.mu] at m2
      simp at m2
      have := h.lt hB'
      obtain ⟨rfl, rfl⟩ := m1
      rcases hg' with rfl | hg'
      · omega
      · omega
    · subst e2
      simp [List.getElem?_set, hbmu] at m2
      simp only [List.getElem?_set_ne (fun x => e1 x.symm)] at h1 m1
      obtain ⟨g0, rc0, cur0, hB'⟩ := h.blk b1 k1 h1 l1
      have hne := hother b1 k1 g0 rc0 cur0 e1 h1 l1 hB'
      rw [hB'.mu] at m1
      simp at m1
      have := h.lt hB'
      obtain ⟨rfl, rfl⟩ := m2
      rcases hg' with rfl | hg'
      · omega
      · omega
    · simp only [List.getElem?_set_ne (fun x => e1 x.symm)] at h1 m1
      simp only [List.getElem?_set_ne (fun x => e2 x.symm)] at h2 m2
      exact h.inj b1 b2 k1 k2 gg r1 r2 h1 l1 h2 l2 m1 m2
  · intro g0 cur0 hg0
    obtain ⟨e, fr, he⟩ := h.mem g0 cur0 hg0
    have hne : g0 ≠ g := fun e => by rw [e, hB.mem] at hg0; cases hg0
    exact ⟨e, fr, by rw [hh g0 (h.mem_lt hg0) hne]; exact he⟩
  · exact Nat.le_trans h.base hs
end Go.Proofs.YtbdpceigmnpoaaaGreatDoor.Ev
