/- The operations that make or write memory, but for calls. -/
import Derived.Test.YtbdpceigmnpoaaaGreatDoorEvF
import Derived.Laws.MakeOwn
set_option linter.unusedSimpArgs false
set_option linter.unusedVariables false
namespace Go.Proofs.YtbdpceigmnpoaaaGreatDoor.Ev
open Go.RowKit

/-- what an operation that may write does -/
def Does (P : Program) (S : Sta) (w : World) (B : Nat) (a : Act) (o : Oper) (x : AV) (H' : Heap) : Prop :=
  ∃ v w' S', ((execOp a.eval o).run P w = .ok (.value v) w' ∨ ((execOp a.eval o).run P w = .ok .skip w' ∧ v = undef)) ∧ S'.H = H' ∧ RepV S' x v ∧ WRel S' w' B ∧ Ext S S' ∧ Bel B w w'

theorem below_setRow' {B g : Nat} {w : World} (hBg : B ≤ g) (cs : Array Value) : Bel B w (w.setRow g cs) :=
  ⟨rfl, rfl, rfl, by simp, fun k hk => setRow_other w g k cs (by omega), setRow_others w g cs⟩
theorem idx_inj {j i c d sz : Nat} (hc : c < sz) (hd : d < sz) (h : j * sz + c = i * sz + d) : j = i ∧ c = d := by
  have hji : j = i := by
    rcases Nat.lt_trichotomy j i with hlt | heq | hgt
    · have : (j + 1) * sz ≤ i * sz := Nat.mul_le_mul_right _ hlt
      rw [Nat.add_mul, Nat.one_mul] at this
      omega
    · exact heq
    · have : (i + 1) * sz ≤ j * sz := Nat.mul_le_mul_right _ hgt
      rw [Nat.add_mul, Nat.one_mul] at this
      omega
  subst hji
  exact ⟨rfl, by omega⟩
theorem spl_get (cs : List AV) (off : Nat) (xs : List AV) (h : off + xs.length ≤ cs.length) (k : Nat) : (spl cs off xs)[k]? = if off ≤ k ∧ k < off + xs.length then xs[k - off]? else cs[k]? := by
  induction xs generalizing cs off with
  | nil => simp [spl]; omega
  | cons x xs ih =>
    simp only [List.length_cons] at h ⊢
    simp only [spl]
    rw [ih (cs.set off x) (off + 1) (by simp; omega)]
    by_cases h1 : off + 1 ≤ k ∧ k < off + 1 + xs.length
    · rw [if_pos h1, if_pos (by omega)]
      rw [show k - off = (k - (off + 1)) + 1 by omega]
      simp
    · rw [if_neg h1]
      by_cases h2 : k = off
      · subst h2
        rw [if_pos (by omega)]
        simp [List.getElem?_set]
        omega
      · rw [if_neg (by omega), List.getElem?_set_ne (fun e => h2 e.symm)]
theorem seg_get {α : Type} (cur news : List α) (o : Nat) (h : o + news.length ≤ cur.length) (k : Nat) : (cur.take o ++ news ++ cur.drop (o + news.length))[k]? = if o ≤ k ∧ k < o + news.length then news[k - o]? else cur[k]? := by
  have hl : (cur.take o).length = o := by simp; omega
  by_cases h1 : k < o
  · rw [if_neg (by omega), List.append_assoc, List.getElem?_append_left (by omega), List.getElem?_take, if_pos h1]
  · by_cases h2 : k < o + news.length
    · rw [if_pos (by omega), List.append_assoc, List.getElem?_append_right (by omega), hl, List.getElem?_append_left (by omega)]
    · rw [if_neg (by omega), List.getElem?_append_right (by simp; omega), List.getElem?_drop]
      congr 1
      simp
      omega

section ops
variable {P : Program} {S : Sta} {w : World} {B : Nat} {T : Env} {a : Act} {ss : List Nat} {o : Oper} {x : AV}

def okBox (P : Program) (op : Op) (ty sz : Nat) (y : COpd) : Bool :=
  match op with
  | .alloc e => decide (e = ty) && (match y, P.info? e with | .c z, some i => (match i.zero with | some v => okConst v z | none => false) | _, _ => false)
  | .box e z => decide (e = ty) && okOpd z y
  | _ => false
theorem newVar_sound (hW : WRel S w B) {v : AV} {u : Value} (hr : RepV S v u) (ht : v.isTup = false) {sz ty : Nat} (hl : v.cells.length = sz) :
    ∃ S', S'.H = S.H ++ [⟨0, true, ty, sz, [v.cells]⟩] ∧ RepV S' (.ptr S.H.length 0 sz 0 0) (.pointer (some ⟨w.heap.size, 0, none⟩)) ∧ WRel S' (w.alloc (.cells u.cells ty)) B ∧ Ext S S' ∧ Bel B w (w.alloc (.cells u.cells ty)) := by
  have hc := rep1_cells (rep1_of hr ht)
  have hsize : u.cells.size = sz := by rw [← Array.length_toList, ← hc.1]; exact hl
  obtain ⟨S', h1, h2, h3, h4, h5⟩ := hW.push ty sz 1 [v.cells] u.cells (by omega) (by simp) (by simp [maxLen]) (fun j r hj => by
      cases j with
      | zero => simp at hj; subst hj; exact hl
      | succ j => simp at hj) (fun j c r x hj hx => by
      cases j with
      | zero =>
        simp at hj
        subst hj
        obtain ⟨z, hz, hrz⟩ := repL_get hc hx
        exact ⟨z, by simpa using hz, hrz⟩
      | succ j => simp at hj)
  refine ⟨S', h1, .one (.s (.ptr _ _ _ _ _ _ ⟨0, true, ty, sz, [v.cells]⟩ ?_ (Nat.le_refl _) fun _ _ _ => ⟨w.heap.size, 1, ?_, by simp⟩)), h5, h4, (Bel.refl _ _).alloc hW.base _⟩
  · rw [h1]; simp
  · rw [h2, ← hW.len]; simp
theorem box_sound (hW : WRel S w B) (hT : TRel S T a.tmps ss) {ty sz : Nat} {y : COpd} (ho : okBox P o.op ty sz y = true) (hs : ∀ t ∈ y.slots, t ∈ ss) {v : AV} (h1 : evOpd T y = some v) (hl : v.cells.length = sz) (ht : v.isTup = false) :
    Does P S w B a o (.ptr S.H.length 0 sz 0 0) (S.H ++ [⟨0, true, ty, sz, [v.cells]⟩]) := by
  unfold okBox at ho
  split at ho
  · rename_i e he
    simp only [Bool.and_eq_true, decide_eq_true_eq] at ho
    obtain ⟨rfl, ho⟩ := ho
    split at ho
    · rename_i z i hi
      split at ho
      · rename_i zv hz
        simp only [evOpd, Option.some.injEq] at h1
        subst h1
        obtain ⟨S', a1, a2, a3, a4, a5⟩ := newVar_sound (ty := e) hW (okConst_rep S ho) ht hl
        exact ⟨_, _, S', .inl (by simp [execOp, he, Instr.alloc, zeroValue, typeInfo, hi, hz, newVar, newRow]), a1, a2, a3, a4, a5⟩
      · simp at ho
    · simp at ho
  · rename_i e z he
    simp only [Bool.and_eq_true, decide_eq_true_eq] at ho
    obtain ⟨rfl, ho⟩ := ho
    obtain ⟨S', a1, a2, a3, a4, a5⟩ := newVar_sound (ty := e) hW (opd_rep hT ho hs h1) ht hl
    exact ⟨_, _, S', .inl (by simp [execOp, he, Instr.box, newVar, newRow]), a1, a2, a3, a4, a5⟩
  · simp at ho

def okStore (P : Program) (op : Op) (sz : Nat) (y z : COpd) : Bool :=
  match op with
  | .store t y' z' => okOpd y' y && okOpd z' z && decide (sizeT P t = some sz)
  | _ => false
theorem store_sound (hW : WRel S w B) (hT : TRel S T a.tmps ss) {sz : Nat} {y z : COpd} (ho : okStore P o.op sz y z = true) (hs : ∀ t ∈ y.slots ++ z.slots, t ∈ ss) {p v : AV} {H' : Heap}
    (h1 : evOpd T y = some p) (h2 : evOpd T z = some v) (hx : evStore sz S.H v p = some H') : Does P S w B a o (.tup []) H' := by
  unfold okStore at ho
  split at ho
  · rename_i t y' z' e
    simp only [Bool.and_eq_true, decide_eq_true_eq] at ho
    obtain ⟨⟨h3, h4⟩, h5⟩ := ho
    have hp := opd_rep hT h3 (fun t ht => hs t (by simp [ht])) h1
    have hv := opd_rep hT h4 (fun t ht => hs t (by simp [ht])) h2
    unfold evStore at hx
    split at hx
    · rename_i b ver s i off
      split at hx
      · rename_i k hk
        split at hx
        · rename_i row hrow
          split at hx
          · rename_i hc
            obtain ⟨hc1, hc2, hc3⟩ := hc
            simp only [Option.some.injEq] at hx
            subst hx
            obtain ⟨d1, d2, d3, d4⟩ := curBlk_spec hk
            obtain ⟨g, rc, cur, hz, hB, _⟩ := ptr_cells hW hp hk hrow
            have hcs := rep1_cells (rep1_of hv hc3)
            have hlen : (a.eval z').cells.toList.length = sz := by rw [← hcs.1]; exact hc1
            have hrl : row.length = k.sz := hB.row i row hrow
            have hi : i < k.els.length := (List.getElem?_eq_some_iff.1 hrow).1
            have hle : i * s + off + sz ≤ cur.size := by
              rw [hB.size, d4]
              have : (i + 1) * s ≤ rc * s := Nat.mul_le_mul_right _ (by have := hB.le; omega)
              rw [Nat.add_mul, Nat.one_mul] at this
              omega
            have hone : ∀ u ∈ (a.eval z').cells.toList, u.oneCell' = true := by
              intro u hu
              obtain ⟨n, hn⟩ := List.getElem?_of_mem hu
              have hn' := (List.getElem?_eq_some_iff.1 hn).1
              have hlt : n < v.cells.length := by rw [hcs.1]; exact hn'
              exact (hcs.2 n _ u (List.getElem?_eq_getElem hlt) hn).oneCell
            have hrun := run_storeCells_at P g (i * s + off) k.ty (a.eval z').cells.toList 0 cur w hB.heap (by simp [hlen]; omega) hone
            simp only [Nat.add_zero, hlen] at hrun
            have hsz : (a.eval z').cells.size = sz := by rw [← Array.length_toList]; exact hlen
            have hcl : cur.toList.length = cur.size := by simp
            obtain ⟨S', e1, e2, e3, e4, e5⟩ := hW.write (w' := w.setRow g (cur.toList.take (i * s + off) ++ (a.eval z').cells.toList ++ cur.toList.drop (i * s + off + sz)).toArray) d1 d2 hB k.ver (k.els.set i (spl row off v.cells)) (Nat.le_refl _) g rc
              (fun _ => ⟨rfl, rfl, by simp⟩)
              (cur' := (cur.toList.take (i * s + off) ++ (a.eval z').cells.toList ++ cur.toList.drop (i * s + off + sz)).toArray)
              (by rw [← hB.size]; simp [hsz]; omega)
              (by simpa using hB.le) hB.max (.inl rfl) hB.base (setRow_heap w g cur _ k.ty (0, 0) hB.heap) (by simp) (fun x _ hne => setRow_other w g x _ hne)
              (fun j r hj => by
                by_cases hji : j = i
                · subst hji
                  simp [List.getElem?_set, hi] at hj
                  subst hj
                  rw [spl_length]; exact hrl
                · rw [List.getElem?_set_ne (fun e => hji e.symm)] at hj
                  exact hB.row j r hj)
              (fun S' hE j c r xx hj hcx => by
                have hget := seg_get cur.toList (a.eval z').cells.toList (i * s + off) (by rw [hlen, hcl]; omega) (j * k.sz + c)
                simp only [hlen] at hget
                have hgoal : ∀ u, (if i * s + off ≤ j * k.sz + c ∧ j * k.sz + c < i * s + off + sz then (a.eval z').cells.toList[j * k.sz + c - (i * s + off)]? else cur.toList[j * k.sz + c]?) = some u →
                    (cur.toList.take (i * s + off) ++ (a.eval z').cells.toList ++ cur.toList.drop (i * s + off + sz)).toArray[j * k.sz + c]? = some u := by
                  intro u hu
                  rw [List.getElem?_toArray, hget]; exact hu
                by_cases hji : j = i
                · subst hji
                  simp [List.getElem?_set, hi] at hj
                  subst hj
                  rw [spl_get row off v.cells (by omega)] at hcx
                  split at hcx
                  · rename_i hrange
                    obtain ⟨u, hu, hru⟩ := repL_get hcs hcx
                    refine ⟨u, hgoal u ?_, hru.ext hE⟩
                    rw [if_pos (by rw [d4]; omega), d4, show j * s + c - (j * s + off) = c - off by omega]
                    exact hu
                  · rename_i hrange
                    obtain ⟨u, hu, hru⟩ := hB.cell j c row xx hrow hcx
                    refine ⟨u, hgoal u ?_, hru.ext hE⟩
                    rw [if_neg (by rw [d4]; omega)]
                    simpa using hu
                · rw [List.getElem?_set_ne (fun e => hji e.symm)] at hj
                  obtain ⟨u, hu, hru⟩ := hB.cell j c r xx hj hcx
                  refine ⟨u, hgoal u ?_, hru.ext hE⟩
                  have hcl2 : c < s := by rw [← d4, ← hB.row j r hj]; exact (List.getElem?_eq_some_iff.1 hcx).1
                  rw [if_neg]
                  · simpa using hu
                  · rw [d4]
                    rintro ⟨q1, q2⟩
                    have := idx_inj (sz := s) (j := j) (i := i) (c := c) (d := j * s + c - i * s) hcl2 (by omega) (by omega)
                    omega)
            have hel : k = { k with ver := k.ver, els := k.els } := rfl
            refine ⟨undef, _, S', .inr ⟨?_, rfl⟩, by rw [e1], .tup [] [] rfl (by simp), e5, e4, below_setRow' hB.base _⟩
            have hz' : (a.eval z').cells.size = sz := hsz
            simp only [execOp, e, Instr.storeAt, hz, Instr.sureAddr, storeVar, Sem.run_bind, Sem.run_pure, Result.andThen_ok, run_sizeT w h5]
            simp only [hz', ne_eq, not_true_eq_false, if_false]
            simp only [Sem.run_bind, Sem.run_pure, Result.andThen_ok, hrun]
          · cases hx
        · cases hx
      · cases hx
    · cases hx
  · simp at ho

/-- what is appended or copied, as memory has it -/
structure Src (P : Program) (S : Sta) (w : World) (u : Value) (sz : Nat) (l : List (List AV)) : Prop where
  len : ∀ w', (Builtin.lenOf u).run P w' = .ok l.length w'
  take : ∀ m, m ≤ l.length → ∃ news : List Value, news.length = m * sz ∧ (∀ w' : World, (∀ ad, w'.cell? ad = w.cell? ad) → (Builtin.firstCells sz m u).run P w' = .ok news.toArray w') ∧
    (∀ v ∈ news, v.oneCell' = true) ∧ ∀ (j c : Nat) (r : List AV) (y : AV), j < m → l[j]? = some r → r[c]? = some y → ∃ v, news[j * sz + c]? = some v ∧ RepS S y v
  row : ∀ (j : Nat) (r : List AV), l[j]? = some r → r.length = sz
theorem src_of (hW : WRel S w B) {p : AV} {u : Value} (hr : RepV S p u) {l : List (List AV)} (hl : srcRows S.H p = some l) {sz : Nat} (hh : headOk sz l = true) (hne : l ≠ []) : Src P S w u sz l := by
  unfold srcRows at hl
  split at hl
  · rename_i s
    cases hl
    have hz := rep_str hr
    subst hz
    have hsz : 1 = sz := headOk_spec hh (fun j r hj => by
      simp only [byteRows, List.getElem?_map] at hj
      cases hb : s.data.toList[j]? with
      | none => rw [hb] at hj; simp at hj
      | some b => rw [hb] at hj; simp at hj; subst hj; rfl) hne
    subst hsz
    have hlen : (byteRows s).length = s.size := by simp [byteRows]
    refine ⟨fun w' => by simp [Builtin.lenOf, hlen], fun m hm => ⟨(s.data.toList.take m).map fun b => .int .u8 b.toNat, ?_, fun w' _ => ?_, ?_, ?_⟩, ?_⟩
    · rw [hlen] at hm; simp; omega
    · simp only [Builtin.firstCells, Sem.run_pure]
      congr 1
      apply Array.ext'
      simp [ByteArray.data_extract, List.extract_eq_take_drop]
    · intro v hv
      obtain ⟨b, _, rfl⟩ := List.mem_map.1 hv
      rfl
    · intro j c r y hj hr hy
      simp only [byteRows, List.getElem?_map] at hr
      cases hb : s.data.toList[j]? with
      | none => rw [hb] at hr; simp at hr
      | some b =>
        rw [hb] at hr
        simp at hr
        subst hr
        cases c with
        | zero =>
          simp at hy
          subst hy
          refine ⟨.int .u8 b.toNat, ?_, .frz (.int _ _)⟩
          simp only [Nat.mul_one, Nat.add_zero, List.getElem?_map, List.getElem?_take, if_pos hj, hb, Option.map_some]
        | succ c => simp at hy
    · intro j r hj
      simp only [byteRows, List.getElem?_map] at hj
      cases hb : s.data.toList[j]? with
      | none => rw [hb] at hj; simp at hj
      | some b => rw [hb] at hj; simp at hj; subst hj; rfl
  · obtain ⟨ad, cap, sz', hu, hR⟩ := rows_sound hW hr hl
    have hsz : sz' = sz := headOk_spec hh hR.row hne
    subst hsz
    obtain ⟨ad, rfl⟩ := hR.base hne
    subst hu
    obtain ⟨news, h1, h2, h3, h4⟩ := hR.vals
    refine ⟨fun w' => by simp [Builtin.lenOf], fun m hm => ⟨news.take (m * sz'), ?_, fun w' hw' => ?_, fun v hv => h3 v (List.mem_of_mem_take hv), ?_⟩, hR.row⟩
    · rw [List.length_take, h1]
      exact Nat.min_eq_left (Nat.mul_le_mul_right _ hm)
    · have hl' : (news.take (m * sz')).length = m * sz' := by rw [List.length_take, h1]; exact Nat.min_eq_left (Nat.mul_le_mul_right _ hm)
      refine run_firstCells_some w' sz' m ad _ cap _ hl' fun j v hj => ?_
      rw [List.getElem?_take] at hj
      split at hj
      · rw [hw']; exact h2 j v hj
      · cases hj
    · intro j c r y hj hr' hy
      obtain ⟨v, hv, hrv⟩ := h4 j c r y hr' hy
      refine ⟨v, ?_, hrv⟩
      rw [List.getElem?_take, if_pos]
      · exact hv
      · have hc : c < sz' := by rw [← hR.row j r hr']; exact (List.getElem?_eq_some_iff.1 hy).1
        calc j * sz' + c < j * sz' + sz' := by omega
          _ = (j + 1) * sz' := by rw [Nat.add_mul, Nat.one_mul]
          _ ≤ m * sz' := Nat.mul_le_mul_right _ hj

section run
variable (P)
theorem run_app_room {t u ty e : TypeId} {i : TypeInfo} (ht : P.underlying t = some (.slice e)) (hi : P.info? e = some i) (hu : (∃ e', P.underlying u = some (.slice e')) ∨ P.underlying u = some .string)
    (w : World) (base : Option Addr) (sLen sCap : Nat) (xv : Value) (n : Nat) (news : List Value) (hn : (Builtin.lenOf xv).run P w = .ok n w) (hf : (Builtin.firstCells i.size n xv).run P w = .ok news.toArray w) (hroom : sLen + n ≤ sCap) :
    (Builtin.append_ #[t, u] ty #[.slice base sLen sCap, xv]).run P w = ((match base with | some a => storeCells (a.add (sLen * i.size)) news | none => pure ()).run P w).andThen fun _ w' => .ok (.slice base (sLen + n) sCap) w' := by
  rcases hu with ⟨e', hu⟩ | hu <;> cases base <;> simp [Builtin.append_, run_underlying ht, run_underlying hu, sizeOf, typeInfo, hi, hn, hf, hroom]
theorem run_app_grow {t u ty e : TypeId} {i : TypeInfo} {z : Value} (ht : P.underlying t = some (.slice e)) (hi : P.info? e = some i) (hzz : i.zero = some z) (hu : (∃ e', P.underlying u = some (.slice e')) ∨ P.underlying u = some .string)
    (w : World) (base : Option Addr) (sLen sCap : Nat) (xv : Value) (n : Nat) (olds news : List Value) (hn : (Builtin.lenOf xv).run P w = .ok n w) (hf : (Builtin.firstCells i.size n xv).run P w.drew = .ok news.toArray w.drew)
    (ho : (Builtin.firstCells i.size sLen (.slice base sLen sCap)).run P w.drew = .ok olds.toArray w.drew) (hg : sCap < sLen + n) (h63 : sLen + n ≤ reach) (hb : (sLen + n) * i.bytes ≤ reach) :
    (Builtin.append_ #[t, u] ty #[.slice base sLen sCap, xv]).run P w =
      .ok (.slice (some ⟨w.heap.size, 0, none⟩) (sLen + n) (grownCap w (sLen + n) sCap e)) (w.drew.alloc (.cells (olds.toArray ++ news.toArray ++ Builtin.zeroCells z.cells (grownCap w (sLen + n) sCap e - (sLen + n))) e)) := by
  unfold reach at h63 hb
  have h1 : ¬ (sLen + n ≤ sCap) := by omega
  have h63' : ¬ (9223372036854775807 < ((sLen : Int) + (n : Int))) := by omega
  have h48' : ¬ (281474976710656 < Builtin.nextslicecap (sLen + n) sCap * i.bytes) := by
    have := growslice_fits hg hb; omega
  rcases hu with ⟨e', hu⟩ | hu <;> simp [Builtin.append_, run_underlying ht, run_underlying hu, sizeOf, typeInfo, zeroValue, hi, hzz, hn, h1, h63', h48', Question.forced, hf, ho, newRow, grownCap] <;> (congr 2; apply Array.ext'; simp)
end run
end ops
end Go.Proofs.YtbdpceigmnpoaaaGreatDoor.Ev
