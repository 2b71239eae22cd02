/- What is frozen, what a call leaves behind. -/
import Derived.Test.YtbdpceigmnpoaaaGreatDoorEvI
set_option linter.unusedSimpArgs false
set_option linter.unusedVariables false
namespace Go.Proofs.YtbdpceigmnpoaaaGreatDoor.Ev
open Go.RowKit

theorem fzCells_spec {f : AV → Option (AV × List Nat)} : ∀ {cs l : List AV} {ids : List Nat}, fzCells f cs = some (l, ids) → l.length = cs.length ∧ ∀ (i : Nat) (x : AV), cs[i]? = some x → ∃ x' js, f x = some (x', js) ∧ l[i]? = some x' ∧ ∀ j ∈ js, j ∈ ids
  | [], l, ids, h => by simp [fzCells] at h; obtain ⟨rfl, rfl⟩ := h; simp
  | y :: cs, l, ids, h => by
    simp only [fzCells] at h
    split at h
    · rename_i y' i' l' j' h1 h2
      cases h
      obtain ⟨h3, h4⟩ := fzCells_spec h2
      refine ⟨by simp [h3], fun i x hx => ?_⟩
      cases i with
      | zero => simp at hx; subst hx; exact ⟨y', i', h1, rfl, fun j hj => List.mem_append.2 (.inl hj)⟩
      | succ i =>
        obtain ⟨x', js, h5, h6, h7⟩ := h4 i x (by simpa using hx)
        exact ⟨x', js, h5, by simpa using h6, fun j hj => List.mem_append.2 (.inr (h7 j hj))⟩
    · cases h
theorem fzRows_spec {f : AV → Option (AV × List Nat)} : ∀ {cs l : List (List AV)} {ids : List Nat}, fzRows f cs = some (l, ids) → l.length = cs.length ∧ ∀ (i : Nat) (x : List AV), cs[i]? = some x → ∃ x' js, fzCells f x = some (x', js) ∧ l[i]? = some x' ∧ ∀ j ∈ js, j ∈ ids
  | [], l, ids, h => by simp [fzRows] at h; obtain ⟨rfl, rfl⟩ := h; simp
  | y :: cs, l, ids, h => by
    simp only [fzRows] at h
    split at h
    · rename_i y' i' l' j' h1 h2
      cases h
      obtain ⟨h3, h4⟩ := fzRows_spec h2
      refine ⟨by simp [h3], fun i x hx => ?_⟩
      cases i with
      | zero => simp at hx; subst hx; exact ⟨y', i', h1, rfl, fun j hj => List.mem_append.2 (.inl hj)⟩
      | succ i =>
        obtain ⟨x', js, h5, h6, h7⟩ := h4 i x (by simpa using hx)
        exact ⟨x', js, h5, by simpa using h6, fun j hj => List.mem_append.2 (.inr (h7 j hj))⟩
    · cases h

theorem kill_len (H : Heap) (ids : List Nat) : (kill H ids).length = H.length := by
  induction ids generalizing H with
  | nil => rfl
  | cons b ids ih =>
    simp only [kill]
    rw [ih]
    cases H[b]? <;> simp
theorem kill_spec (ids : List Nat) : ∀ (H : Heap) (b : Nat) (k : Blk), H[b]? = some k → ∃ k', (kill H ids)[b]? = some k' ∧ k.ver ≤ k'.ver ∧ (b ∈ ids → k'.live = false) ∧ (b ∉ ids → k' = k) ∧ (k.live = false → k'.live = false) := by
  induction ids with
  | nil => intro H b k h; exact ⟨k, h, Nat.le_refl _, by simp, by simp, fun h => h⟩
  | cons c ids ih =>
    intro H b k h
    simp only [kill]
    by_cases hbc : b = c
    · subst hbc
      simp only [h]
      have hlt := (List.getElem?_eq_some_iff.1 h).1
      obtain ⟨k', h1, h2, h3, h4, h5⟩ := ih (H.set b { k with ver := k.ver + 1, live := false, els := [] }) b { k with ver := k.ver + 1, live := false, els := [] } (by simp [List.getElem?_set, hlt])
      refine ⟨k', h1, by simp at h2; omega, fun _ => h5 rfl, fun hn => absurd (List.mem_cons_self) hn, fun _ => h5 rfl⟩
    · have hset : (match H[c]? with | some k => H.set c { k with ver := k.ver + 1, live := false, els := [] } | none => H)[b]? = some k := by
        cases H[c]? with
        | none => exact h
        | some kc => simp only []; rw [List.getElem?_set_ne (fun e => hbc e.symm)]; exact h
      obtain ⟨k', h1, h2, h3, h4, h5⟩ := ih _ b k hset
      refine ⟨k', h1, h2, fun hm => ?_, fun hn => h4 (fun hm => hn (List.mem_cons_of_mem _ hm)), h5⟩
      rcases List.mem_cons.1 hm with h | h
      · exact absurd h hbc
      · exact h3 h

/-- the memory of the blocks that are given up -/
def Holds (S : Sta) (w : World) (B : Nat) (ids : List Nat) (M' : Mem) : Prop :=
  (∀ g cur, S.M g = some cur → M' g = some cur) ∧ ∀ b ∈ ids, ∀ k g rc cur, S.H[b]? = some k → k.live = true → BlkAt S w B b k g rc cur → M' g = some cur
theorem Holds.sub {S : Sta} {w : World} {B : Nat} {ids js : List Nat} {M' : Mem} (h : Holds S w B ids M') (hs : ∀ j ∈ js, j ∈ ids) : Holds S w B js M' := ⟨h.1, fun b hb => h.2 b (hs b hb)⟩

theorem fz_sound {S : Sta} {w : World} {B : Nat} (hW : WRel S w B) : ∀ (n : Nat) (a a' : AV) (ids : List Nat) (v : Value) (M' : Mem), fz S.H n a = some (a', ids) → RepS S a v → Holds S w B ids M' → RepF M' a' v
  | 0, _, _, _, _, _, h, _, _ => by simp [fz] at h
  | n + 1, a, a', ids, v, M', h, hr, hM => by
    have IH := fz_sound hW n
    unfold fz at h
    -- rows of a block that is given up
    have rows : ∀ (b v sz off len : Nat) (k : Blk) (l : List (List AV)) (js : List Nat) (g rc : Nat) (cap : Nat), curBlk S.H b v sz = some k → fzRows (fz S.H n) ((k.els.drop off).take len) = some (l, js) → 0 < len → off + len ≤ k.els.length → len ≤ cap → S.mu[b]? = some (g, rc) → Holds S w B (b :: js) M' →
        RepF M' (.lst l) (.slice (some ⟨g, off * sz, none⟩) len cap) := by
      intro b v sz off len k l js g rc cap hk hf hpos hle hcap hmu hM
      obtain ⟨d1, d2, d3, d4⟩ := curBlk_spec hk
      obtain ⟨g', rc', cur, hB⟩ := hW.blk b k d1 d2
      have hmu' := hB.mu
      rw [hmu] at hmu'
      cases hmu'
      obtain ⟨hl, hrow⟩ := fzRows_spec hf
      have hll : l.length = len := by rw [hl]; simp; omega
      have hMg := hM.2 b List.mem_cons_self k g rc cur d1 d2 hB
      have get : ∀ (j : Nat) (row' : List AV), l[j]? = some row' → ∃ row js', k.els[off + j]? = some row ∧ fzCells (fz S.H n) row = some (row', js') ∧ ∀ x ∈ js', x ∈ js := by
        intro j row' hj
        have hjl := (List.getElem?_eq_some_iff.1 hj).1
        have hjl2 : j < ((k.els.drop off).take len).length := by rw [← hl]; exact hjl
        obtain ⟨x', js', q1, q2, q3⟩ := hrow j _ (List.getElem?_eq_getElem hjl2)
        rw [hj] at q2
        cases q2
        refine ⟨_, js', ?_, q1, q3⟩
        have := List.getElem?_eq_getElem hjl2
        rw [List.getElem?_take, List.getElem?_drop, if_pos (by omega)] at this
        exact this
      rw [← hll]
      refine .lst l g (off * sz) sz cap cur (fun j c => (cur[off * sz + (j * sz + c)]?).getD undef) (by intro h0; rw [h0] at hll; simp at hll; omega) hMg (by omega) ?_ ?_ ?_
      · intro j row' hj
        obtain ⟨row, js', q1, q2, q3⟩ := get j row' hj
        rw [(fzCells_spec q2).1, ← d4]
        exact hB.row _ _ q1
      · intro j c row' x' hj hc
        obtain ⟨row, js', q1, q2, q3⟩ := get j row' hj
        obtain ⟨hcl, hcell⟩ := fzCells_spec q2
        have hclt : c < row.length := by rw [← hcl]; exact (List.getElem?_eq_some_iff.1 hc).1
        obtain ⟨u, hu, hru⟩ := hB.cell (off + j) c row _ q1 (List.getElem?_eq_getElem hclt)
        rw [d4, Nat.add_mul, Nat.add_assoc] at hu
        rw [hu]; rfl
      · intro j c row' x' hj hc
        obtain ⟨row, js', q1, q2, q3⟩ := get j row' hj
        obtain ⟨hcl, hcell⟩ := fzCells_spec q2
        have hclt : c < row.length := by rw [← hcl]; exact (List.getElem?_eq_some_iff.1 hc).1
        obtain ⟨u, hu, hru⟩ := hB.cell (off + j) c row _ q1 (List.getElem?_eq_getElem hclt)
        rw [d4, Nat.add_mul, Nat.add_assoc] at hu
        obtain ⟨x'', js'', p1, p2, p3⟩ := hcell c _ (List.getElem?_eq_getElem hclt)
        rw [hc] at p2
        cases p2
        rw [hu]
        exact IH _ _ _ _ _ p1 hru (hM.sub fun i hi => List.mem_cons_of_mem _ (q3 i (p3 i hi)))
    split at h
    · cases h
      obtain ⟨ad, cap, k, rfl, _, _, _, hs, _⟩ := rep_ref (.one (.s hr))
      exact .lst0 _ _ fun h0 => by rw [h0] at hs; simp at hs
    · rename_i b v0 sz off len
      split at h
      · rename_i k hk
        split at h
        · rename_i l js hf
          cases h
          obtain ⟨ad, cap, k', rfl, hk', _, hcap, _, hat⟩ := rep_ref (.one (.s hr))
          obtain ⟨d1, d2, d3, d4⟩ := curBlk_spec hk
          rw [d1] at hk'
          cases hk'
          obtain ⟨hle, hat⟩ := hat d2 d3 d4
          obtain ⟨g, rc, hmu, rfl, _⟩ := hat (.inl (Nat.succ_pos _))
          exact rows b v0 sz off (len + 1) k l js g rc cap hk hf (Nat.succ_pos _) hle hcap hmu hM
        · cases h
      · cases h
    · rename_i b v0 sz off len
      split at h
      · rename_i k hk
        split at h
        · rename_i l js hf
          cases h
          obtain ⟨ad, k', rfl, hk', _, hat⟩ := rep_cref (.one (.s hr))
          obtain ⟨d1, d2, d3, d4⟩ := curBlk_spec hk
          rw [d1] at hk'
          cases hk'
          obtain ⟨hle, g, rc, hmu, rfl⟩ := hat d2 d3 d4
          by_cases hl0 : len = 0
          · subst hl0
            have : l = [] := List.eq_nil_of_length_eq_zero (by rw [(fzRows_spec hf).1]; simp)
            subst this
            exact .lst0 _ _ fun h0 => by cases h0
          · exact rows b v0 sz off len k l js g rc len hk hf (by omega) hle (Nat.le_refl _) hmu hM
        · cases h
      · cases h
    · cases h
      rw [rep_nils (.one (.s hr))]
      exact .lst0 _ _ fun _ => rfl
    · cases h
      obtain ⟨ad, cap, rfl⟩ := rep_emp (.one (.s hr))
      exact .lst0 _ _ fun h0 => by cases h0
    · cases h
      obtain ⟨ad, rfl⟩ := rep_nil0 (.one (.s hr))
      exact .lst0 _ _ fun _ => rfl
    · cases h
      rw [rep_int (.one (.s hr))]
      exact .int _ _
    · cases h
      rw [rep_bool (.one (.s hr))]
      exact .bool _
    · cases h
      rw [rep_str (.one (.s hr))]
      exact .str _
    · cases h
      cases hr with
      | frz hr => exact hr.mono hM.1
    · cases h
      rw [rep_nilptr (.one (.s hr))]
      exact .nilptr
    · cases h
      rw [rep_nilfn (.one (.s hr))]
      exact .nilfn
    · cases h

theorem fz1_sound {S : Sta} {w : World} {B : Nat} (hW : WRel S w B) {a a' : AV} {ids : List Nat} {v : Value} {M' : Mem} (h : fz1 S.H a = some (a', ids)) (hr : Rep1 S a v) (hM : Holds S w B ids M') (S' : Sta) (hS : S'.M = M') : Rep1 S' a' v := by
  unfold fz1 at h
  split at h
  · rename_i cs
    cases hc : fzCells (fz S.H fzDepth) cs with
    | none => simp [hc] at h
    | some p =>
      obtain ⟨l, js⟩ := p
      simp only [hc, Option.map_some, Option.some.injEq, Prod.mk.injEq] at h
      obtain ⟨rfl, rfl⟩ := h
      obtain ⟨vs, rfl, hl⟩ := rep_agg (.one hr)
      obtain ⟨h1, h2⟩ := fzCells_spec hc
      refine .agg _ _ ⟨by rw [h1, hl.1], fun i x v hx hv => ?_⟩
      have hi : i < cs.length := by rw [← h1]; exact (List.getElem?_eq_some_iff.1 hx).1
      obtain ⟨x', js', q1, q2, q3⟩ := h2 i _ (List.getElem?_eq_getElem hi)
      rw [hx] at q2
      cases q2
      refine .frz ?_
      rw [hS]
      exact fz_sound hW _ _ _ _ _ _ q1 (hl.2 i _ v (List.getElem?_eq_getElem hi) hv) (hM.sub q3)
  · rename_i hne
    cases hr with
    | s hr =>
      refine .s (.frz ?_)
      rw [hS]
      exact fz_sound hW _ _ _ _ _ _ h hr hM
    | agg cs vs => exact absurd rfl (hne cs)
theorem fzRes_sound {S : Sta} {w : World} {B : Nat} (hW : WRel S w B) {a a' : AV} {ids : List Nat} {v : Value} {M' : Mem} (h : fzRes S.H a = some (a', ids)) (hr : RepV S a v) (hM : Holds S w B ids M') (S' : Sta) (hS : S'.M = M') : RepV S' a' v := by
  unfold fzRes at h
  split at h
  · rename_i cs
    cases hc : fzCells (fz1 S.H) cs with
    | none => simp [hc] at h
    | some p =>
      obtain ⟨l, js⟩ := p
      simp only [hc, Option.map_some, Option.some.injEq, Prod.mk.injEq] at h
      obtain ⟨rfl, rfl⟩ := h
      obtain ⟨vs, rfl, hl, hr⟩ := rep_tup hr
      obtain ⟨h1, h2⟩ := fzCells_spec hc
      refine .tup _ _ (by rw [h1, hl]) fun i x v hx hv => ?_
      have hi : i < cs.length := by rw [← h1]; exact (List.getElem?_eq_some_iff.1 hx).1
      obtain ⟨x', js', q1, q2, q3⟩ := h2 i _ (List.getElem?_eq_getElem hi)
      rw [hx] at q2
      cases q2
      exact fz1_sound hW q1 (hr i _ v (List.getElem?_eq_getElem hi) hv) (hM.sub q3) S' hS
  · rename_i hne
    cases hr with
    | one hr => exact .one (fz1_sound hW h hr hM S' hS)
    | tup cs vs => exact absurd rfl (hne cs)

open Classical in
/-- given up: the blocks die, their memory is kept for ever -/
theorem kill_sound {S : Sta} {w : World} {B : Nat} (hW : WRel S w B) (ids : List Nat) : ∃ S' : Sta, S'.H = kill S.H ids ∧ WRel S' w B ∧ Ext S S' ∧ Holds S w B ids S'.M := by
  let dead : Nat → Prop := fun g => ∃ b ∈ ids, ∃ k rc, S.H[b]? = some k ∧ k.live = true ∧ S.mu[b]? = some (g, rc)
  let M' : Mem := fun g => if dead g then (match w.heap[g]? with | some (.cells c _ _) => some c | _ => none) else S.M g
  have hnone : ∀ g, dead g → S.M g = none := by
    rintro g ⟨b, _, k, rc, h1, h2, h3⟩
    obtain ⟨g', rc', cur, hB⟩ := hW.blk b k h1 h2
    rw [hB.mu] at h3
    cases h3
    exact hB.mem
  have hmono : ∀ g cur, S.M g = some cur → M' g = some cur := by
    intro g cur hg
    have : ¬ dead g := fun hd => by rw [hnone g hd] at hg; cases hg
    show (if dead g then _ else S.M g) = _
    rw [if_neg this]; exact hg
  have hE : Ext S ⟨S.mu, kill S.H ids, M'⟩ := by
    refine ⟨hmono, by simp [kill_len], fun b k hk => ?_⟩
    obtain ⟨k', h1, h2, h3, h4, h5⟩ := kill_spec ids S.H b k hk
    refine ⟨k', h1, h2, fun hl _ => ?_⟩
    have hb : b ∉ ids := fun hm => by rw [h3 hm] at hl; cases hl
    rw [h4 hb] at hl ⊢
    exact ⟨hl, rfl, rfl, Nat.le_refl _⟩
  have hlive : ∀ (b : Nat) (k : Blk), (kill S.H ids)[b]? = some k → k.live = true → b ∉ ids ∧ S.H[b]? = some k := by
    intro b k hk hl
    have hlt : b < S.H.length := by rw [← kill_len S.H ids]; exact (List.getElem?_eq_some_iff.1 hk).1
    obtain ⟨k', h1, h2, h3, h4, h5⟩ := kill_spec ids S.H b _ (List.getElem?_eq_getElem hlt)
    rw [hk] at h1
    cases h1
    have hb : b ∉ ids := fun hm => by rw [h3 hm] at hl; cases hl
    refine ⟨hb, ?_⟩
    rw [h4 hb]
    exact List.getElem?_eq_getElem hlt
  refine ⟨⟨S.mu, kill S.H ids, M'⟩, rfl, ⟨by simp [kill_len, hW.len], ?_, ?_, ?_, hW.base, hW.glob.mono hmono⟩, hE, hmono, ?_⟩
  · intro b k hk hl
    obtain ⟨hb, hk'⟩ := hlive b k hk hl
    obtain ⟨g, rc, cur, hB⟩ := hW.blk b k hk' hl
    refine ⟨g, rc, cur, hB.mu, hB.heap, hB.size, hB.le, hB.max, hB.base, ?_, hB.row, fun j c r x h1 h2 => ?_⟩
    · have : ¬ dead g := by
        rintro ⟨b', hb', k', rc', h1, h2, h3⟩
        have := hW.inj b b' k k' g rc rc' hk' hl h1 h2 hB.mu h3
        exact hb (this ▸ hb')
      show (if dead g then _ else S.M g) = none
      rw [if_neg this]; exact hB.mem
    · obtain ⟨u, hu, hr⟩ := hB.cell j c r x h1 h2
      exact ⟨u, hu, hr.ext hE⟩
  · intro b b' k k' g rc rc' h1 l1 h2 l2 m1 m2
    obtain ⟨_, h1⟩ := hlive b k h1 l1
    obtain ⟨_, h2⟩ := hlive b' k' h2 l2
    exact hW.inj b b' k k' g rc rc' h1 l1 h2 l2 m1 m2
  · intro g cur hg
    simp only [M'] at hg
    split at hg
    · split at hg
      · rename_i c e fr heq
        cases hg
        exact ⟨e, fr, heq⟩
      · cases hg
    · exact hW.mem g cur hg
  · intro b hb k g rc cur hk hl hB
    have hd : dead g := ⟨b, hb, k, rc, hk, hl, hB.mu⟩
    show (if dead g then _ else S.M g) = some cur
    rw [if_pos hd, hB.heap]

theorem freeze_sound {S : Sta} {w : World} {B : Nat} (hW : WRel S w B) {r r' : AV} {v : Value} {ids : List Nat} (hr : RepV S r v) (h : fzRes S.H r = some (r', ids)) :
    ∃ S', S'.H = kill S.H ids ∧ RepV S' r' v ∧ WRel S' w B ∧ Ext S S' := by
  obtain ⟨S', h1, h2, h3, h4⟩ := kill_sound hW ids
  exact ⟨S', h1, fzRes_sound hW h hr h4 S' rfl, h2, h3⟩

/-! what a call leaves behind falls away, where nothing leads to it -/
theorem noRef0_rep {S : Sta} {a : AV} {v : Value} (h : RepS S a v) (hn : noRef0 a = true) : RepF S.M a v := by
  cases h with
  | frz h => exact h
  | ref => simp [noRef0] at hn
  | cref => simp [noRef0] at hn
  | ptr => simp [noRef0] at hn
  | fn f cap vs h1 h2 =>
    cases cap with
    | nil =>
      have : vs = [] := List.eq_nil_of_length_eq_zero (by rw [← h1]; rfl)
      subst this
      exact .fn f
    | cons => simp [noRef0] at hn
theorem noRef1_rep {S S' : Sta} {a : AV} {v : Value} (h : Rep1 S a v) (hn : noRef1 a = true) (hM : S'.M = S.M) : Rep1 S' a v := by
  unfold noRef1 at hn
  split at hn
  · rename_i cs
    obtain ⟨vs, rfl, hl⟩ := rep_agg (.one h)
    refine .agg _ _ ⟨hl.1, fun i x v hx hv => .frz ?_⟩
    rw [hM]
    exact noRef0_rep (hl.2 i x v hx hv) (List.all_eq_true.1 hn x (List.mem_of_getElem? hx))
  · rename_i hne
    cases h with
    | s h => exact .s (.frz (by rw [hM]; exact noRef0_rep h hn))
    | agg cs vs => exact absurd rfl (hne cs)
theorem noRef_rep {S S' : Sta} {a : AV} {v : Value} (h : RepV S a v) (hn : noRef a = true) (hM : S'.M = S.M) : RepV S' a v := by
  unfold noRef at hn
  split at hn
  · rename_i cs
    obtain ⟨vs, rfl, hl, hr⟩ := rep_tup h
    exact .tup _ _ hl fun i x v hx hv => noRef1_rep (hr i x v hx hv) (List.all_eq_true.1 hn x (List.mem_of_getElem? hx)) hM
  · rename_i hne
    cases h with
    | one h => exact .one (noRef1_rep h hn hM)
    | tup cs vs => exact absurd rfl (hne cs)
/-- a cell of an old block, whose blocks are old -/
theorem RepS.back {S S1 S3 : Sta} (hH : ∀ (b : Nat) (k : Blk), S.H[b]? = some k → S1.H[b]? = some k ∧ S3.H[b]? = some k ∧ (k.live = true → S3.mu[b]? = S1.mu[b]?)) (hM : S3.M = S1.M) {a : AV} {v : Value} (h : RepS S1 a v) : (∃ u, RepS S a u) → RepS S3 a v := by
  induction h with
  | frz h => exact fun _ => .frz (by rw [hM]; exact h)
  | ref b v sz off len a cap k hk hv hc hs hr =>
    rintro ⟨u, hu⟩
    obtain ⟨_, _, k0, _, hk0, _⟩ := rep_ref (.one (.s hu))
    obtain ⟨e1, e2, e3⟩ := hH b k0 hk0
    rw [hk] at e1
    cases e1
    refine .ref b v sz off len a cap k e2 hv hc hs fun q1 q2 q3 => ?_
    obtain ⟨c1, c2⟩ := hr q1 q2 q3
    refine ⟨c1, fun h => ?_⟩
    obtain ⟨g, rc, d1, d2⟩ := c2 h
    exact ⟨g, rc, (e3 q1).trans d1, d2⟩
  | cref b v sz off len a k hk hv hr =>
    rintro ⟨u, hu⟩
    obtain ⟨_, k0, _, hk0, _⟩ := rep_cref (.one (.s hu))
    obtain ⟨e1, e2, e3⟩ := hH b k0 hk0
    rw [hk] at e1
    cases e1
    refine .cref b v sz off len a k e2 hv fun q1 q2 q3 => ?_
    obtain ⟨c1, g, rc, d1, d2⟩ := hr q1 q2 q3
    exact ⟨c1, g, rc, (e3 q1).trans d1, d2⟩
  | ptr b v sz i off a k hk hv hr =>
    rintro ⟨u, hu⟩
    obtain ⟨_, k0, _, hk0, _⟩ := rep_ptr (.one (.s hu))
    obtain ⟨e1, e2, e3⟩ := hH b k0 hk0
    rw [hk] at e1
    cases e1
    refine .ptr b v sz i off a k e2 hv fun q1 q2 q3 => ?_
    obtain ⟨g, rc, d1, d2⟩ := hr q1 q2 q3
    exact ⟨g, rc, (e3 q1).trans d1, d2⟩
  | fn f cap vs hl hcs ih =>
    rintro ⟨u, hu⟩
    rcases rep_fn (.one (.s hu)) with ⟨us, _, hul⟩ | ⟨cs, us, rfl, _, _⟩
    case inr =>
      cases vs with
      | nil => cases hl
      | cons v0 vs => cases hcs 0 (.tup []) v0 rfl rfl with | frz h => cases h
    refine .fn f cap vs hl fun i x v hx hv => ih i x v hx hv ?_
    obtain ⟨u', _, hr⟩ := repL_get hul hx
    exact ⟨u', hr⟩
theorem gc_sound {S S1 : Sta} {w w' : World} {B : Nat} (hW : WRel S w B) (hW1 : WRel S1 w' B) (hE : Ext S S1) {r : AV} {v : Value} (hr : RepV S1 r v) :
    ∃ S', S'.H = gc S.H r S1.H ∧ RepV S' r v ∧ WRel S' w' B ∧ Ext S S' := by
  unfold gc
  split
  · rename_i hc
    obtain ⟨hn, hh⟩ := hc
    have htake := eq_of_heq hh
    have hold : ∀ (b : Nat) (k : Blk), S.H[b]? = some k → S1.H[b]? = some k ∧ (k.live = true → S.mu[b]? = S1.mu[b]?) := by
      intro b k hk
      have hlt := (List.getElem?_eq_some_iff.1 hk).1
      have h1 : S1.H[b]? = some k := by
        rw [← htake, List.getElem?_take, if_pos hlt] at hk
        exact hk
      refine ⟨h1, fun hl => ?_⟩
      obtain ⟨k', h2, _, h3⟩ := hE.blk b k hk
      rw [h1] at h2
      cases h2
      exact ((h3 hl rfl).2.1).symm
    refine ⟨⟨S.mu, S.H, S1.M⟩, rfl, noRef_rep hr hn rfl, ⟨hW.len, ?_, ?_, hW1.mem, hW1.base, hW1.glob⟩, ⟨hE.mem, Nat.le_refl _, fun b k hk => ⟨k, hk, Nat.le_refl _, fun h _ => ⟨h, rfl, rfl, Nat.le_refl _⟩⟩⟩⟩
    · intro b k hk hl
      obtain ⟨h1, h2⟩ := hold b k hk
      obtain ⟨g, rc, cur, hB⟩ := hW1.blk b k h1 hl
      obtain ⟨g0, rc0, cur0, hB0⟩ := hW.blk b k hk hl
      refine ⟨g, rc, cur, (h2 hl).trans hB.mu, hB.heap, hB.size, hB.le, hB.max, hB.base, hB.mem, hB.row, fun j c rr x q1 q2 => ?_⟩
      obtain ⟨u, hu, hru⟩ := hB.cell j c rr x q1 q2
      obtain ⟨u0, _, hru0⟩ := hB0.cell j c rr x q1 q2
      exact ⟨u, hu, hru.back (S := S) (S3 := ⟨S.mu, S.H, S1.M⟩) (fun b k hk => ⟨(hold b k hk).1, hk, (hold b k hk).2⟩) rfl ⟨u0, hru0⟩⟩
    · exact hW.inj
  · exact ⟨S1, rfl, hr, hW1, hE⟩
end Go.Proofs.YtbdpceigmnpoaaaGreatDoor.Ev
