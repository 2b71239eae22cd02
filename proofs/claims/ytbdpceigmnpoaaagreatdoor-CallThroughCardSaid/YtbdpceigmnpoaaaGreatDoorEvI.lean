/- copy, clear, make, slices built; all of them together. -/
import Derived.Test.YtbdpceigmnpoaaaGreatDoorEvH
set_option linter.unusedSimpArgs false
set_option linter.unusedVariables false
namespace Go.Proofs.YtbdpceigmnpoaaaGreatDoor.Ev
open Go.RowKit

section ops
variable {P : Program} {S : Sta} {w : World} {B : Nat} {T : Env} {a : Act} {ss : List Nat} {o : Oper} {x : AV}

/-- rows of a live block are written in place -/
theorem write_seg (hW : WRel S w B) {b : Nat} {k : Blk} {g rc : Nat} {cur : Array Value} (d1 : S.H[b]? = some k) (d2 : k.live = true) (hB : BlkAt S w B b k g rc cur) (off : Nat) (src : List (List AV)) (news : List Value) (hle : off + src.length ≤ k.els.length)
    (hrow : ∀ (j : Nat) (r : List AV), src[j]? = some r → r.length = k.sz) (hnl : news.length = src.length * k.sz)
    (hN : ∀ (j c : Nat) (r : List AV) (x : AV), src[j]? = some r → r[c]? = some x → ∃ u, news[j * k.sz + c]? = some u ∧ RepS S x u) :
    ∃ S', S'.H = S.H.set b { k with els := k.els.take off ++ src ++ k.els.drop (off + src.length) } ∧ WRel S' (w.setRow g (cur.toList.take (off * k.sz) ++ news ++ cur.toList.drop (off * k.sz + news.length)).toArray) B ∧ Ext S S' ∧
      Bel B w (w.setRow g (cur.toList.take (off * k.sz) ++ news ++ cur.toList.drop (off * k.sz + news.length)).toArray) ∧ off * k.sz + news.length ≤ cur.size := by
  have hcl : cur.toList.length = cur.size := by simp
  have hBle := hB.le
  have hfit : off * k.sz + news.length ≤ cur.size := by
    rw [hnl, hB.size, ← Nat.add_mul]; exact Nat.mul_le_mul_right _ (by omega)
  have hl1 : (k.els.take off).length = off := by simp; omega
  have hl2 : (k.els.take off ++ src).length = off + src.length := by simp; omega
  obtain ⟨S', e1, e2, e3, e4, e5⟩ := hW.write (w' := w.setRow g (cur.toList.take (off * k.sz) ++ news ++ cur.toList.drop (off * k.sz + news.length)).toArray) d1 d2 hB k.ver (k.els.take off ++ src ++ k.els.drop (off + src.length)) (Nat.le_refl _) g rc
    (cur' := (cur.toList.take (off * k.sz) ++ news ++ cur.toList.drop (off * k.sz + news.length)).toArray)
    (fun h => ⟨rfl, rfl, by simp; omega⟩)
    (by rw [← hB.size]; simp; omega) (by simp; omega) hB.max (.inl rfl) hB.base (setRow_heap w g cur _ k.ty (0, 0) hB.heap) (by simp) (fun x _ hne => setRow_other w g x _ hne)
    (fun j r hj => by
      by_cases hj1 : j < off
      · rw [List.append_assoc, List.getElem?_append_left (by omega), List.getElem?_take, if_pos hj1] at hj
        exact hB.row j r hj
      · by_cases hj2 : j < off + src.length
        · rw [List.append_assoc, List.getElem?_append_right (by omega), List.getElem?_append_left (by omega)] at hj
          exact hrow _ r hj
        · rw [List.getElem?_append_right (by omega), List.getElem?_drop] at hj
          exact hB.row _ r hj)
    (fun S' hE j c r xx hj hcx => by
      have hget := seg_get cur.toList news (off * k.sz) (by omega) (j * k.sz + c)
      have hgoal : ∀ u, (if off * k.sz ≤ j * k.sz + c ∧ j * k.sz + c < off * k.sz + news.length then news[j * k.sz + c - off * k.sz]? else cur.toList[j * k.sz + c]?) = some u →
          (cur.toList.take (off * k.sz) ++ news ++ cur.toList.drop (off * k.sz + news.length)).toArray[j * k.sz + c]? = some u := by
        intro u hu
        rw [List.getElem?_toArray, hget]; exact hu
      by_cases hj1 : j < off
      · rw [List.append_assoc, List.getElem?_append_left (by omega), List.getElem?_take, if_pos hj1] at hj
        obtain ⟨u, hu, hru⟩ := hB.cell j c r xx hj hcx
        have hc2 : c < k.sz := by rw [← hB.row j r hj]; exact (List.getElem?_eq_some_iff.1 hcx).1
        refine ⟨u, hgoal u ?_, hru.ext hE⟩
        have hlt : j * k.sz + c < off * k.sz := by
          calc j * k.sz + c < j * k.sz + k.sz := by omega
            _ = (j + 1) * k.sz := by rw [Nat.add_mul, Nat.one_mul]
            _ ≤ off * k.sz := Nat.mul_le_mul_right _ hj1
        rw [if_neg (by omega)]
        simpa using hu
      · by_cases hj2 : j < off + src.length
        · rw [List.append_assoc, List.getElem?_append_right (by omega), List.getElem?_append_left (by omega), hl1] at hj
          obtain ⟨u, hu, hru⟩ := hN (j - off) c r xx hj hcx
          refine ⟨u, hgoal u ?_, hru.ext hE⟩
          have hlt := (List.getElem?_eq_some_iff.1 hu).1
          have hk2 : j * k.sz = off * k.sz + (j - off) * k.sz := by rw [← Nat.add_mul]; congr 1; omega
          rw [if_pos (by omega), ← hu]
          congr 1; omega
        · rw [List.getElem?_append_right (by omega), hl2, List.getElem?_drop, show off + src.length + (j - (off + src.length)) = j by omega] at hj
          obtain ⟨u, hu, hru⟩ := hB.cell j c r xx hj hcx
          refine ⟨u, hgoal u ?_, hru.ext hE⟩
          have hge : (off + src.length) * k.sz ≤ j * k.sz := Nat.mul_le_mul_right _ (by omega)
          rw [Nat.add_mul] at hge
          rw [if_neg (by omega)]
          simpa using hu)
  exact ⟨S', e1, e5, e4, below_setRow' hB.base _, hfit⟩

def okCopy (P : Program) (op : Op) (sz : Nat) (y z : COpd) : Bool :=
  match op with
  | .call c => match c.callee with
    | .builtin .copy => match c.argTypes.toList, c.args.toList with
      | t :: _, [y', z'] => okOpd y' y && okOpd z' z && (match P.underlying t with
        | some (.slice e) => decide (sizeT P e = some sz)
        | _ => false)
      | _, _ => false
    | _ => false
  | _ => false
theorem srcRows_len (hW : WRel S w B) {p : AV} {u : Value} (hr : RepV S p u) {l : List (List AV)} (hl : srcRows S.H p = some l) (sz : Nat) : (Builtin.lenOf u).run P w = .ok l.length w ∧ (Builtin.firstCells sz 0 u).run P w = .ok #[] w := by
  unfold srcRows at hl
  split at hl
  · rename_i s
    simp only [Option.some.injEq] at hl
    subst hl
    rw [rep_str hr]
    refine ⟨by simp [Builtin.lenOf, byteRows], ?_⟩
    simp only [Builtin.firstCells, Sem.run_pure]
    congr 1
    apply Array.ext'
    simp [ByteArray.data_extract, List.extract_eq_take_drop]
  · obtain ⟨ad, cap, sz', hu, hR⟩ := rows_sound hW hr hl
    rw [hu]
    refine ⟨by simp [Builtin.lenOf], ?_⟩
    cases ad <;> simp [Builtin.firstCells, loadCells, loadCellsFrom]
theorem copy_sound (hW : WRel S w B) (hT : TRel S T a.tmps ss) {sz : Nat} {y z : COpd} (ho : okCopy P o.op sz y z = true) (hs : ∀ t ∈ y.slots ++ z.slots, t ∈ ss) {p q : AV} {src : List (List AV)} {H' : Heap}
    (h1 : evOpd T y = some p) (h2 : evOpd T z = some q) (h3 : srcRows S.H q = some src) (hx : evCopy sz S.H p src = some (x, H')) : Does P S w B a o x H' := by
  unfold okCopy at ho
  split at ho
  case h_2 => simp at ho
  rename_i c he
  split at ho
  case h_2 => simp at ho
  rename_i hc
  split at ho
  case h_2 => simp at ho
  rename_i t ts y' z' hts has
  simp only [Bool.and_eq_true] at ho
  obtain ⟨⟨h4, h5⟩, h6⟩ := ho
  split at h6
  case h_2 => simp at h6
  rename_i e hut
  simp only [decide_eq_true_eq] at h6
  have hp := opd_rep hT h4 (fun t ht => hs t (by simp [ht])) h1
  have hq := opd_rep hT h5 (fun t ht => hs t (by simp [ht])) h2
  obtain ⟨l1, l2⟩ := srcRows_len (P := P) hW hq h3 sz
  have hat : c.argTypes[0]? = some t := by rw [toList_of_eq hts]; rfl
  unfold evCopy at hx
  split at hx
  case h_2 => cases hx
  rename_i dl hdl
  obtain ⟨ad, cap, hz, hle⟩ := evLen_slice hp hdl
  have run : ∀ (cells : List Value) (w' : World), (Builtin.firstCells sz (min src.length dl) (a.eval z')).run P w = .ok cells.toArray w → ((match ad with | some a => storeCells a cells | none => pure ()).run P w) = .ok () w' →
      (execOp a.eval o).run P w = .ok (.value (goInt (min src.length dl : Nat))) w' := by
    intro cells w' q1 q2
    have e0 : Nat.min src.length dl = min src.length dl := rfl
    cases ad with
    | none =>
      simp only [] at q2
      simp only [Sem.run_pure, Result.ok.injEq, true_and] at q2
      subst q2
      simp [execOp, he, resolve, hc, invoke, builtin, toList_of_eq has, Builtin.copy_, hat, run_underlying hut, hz, l1, e0, run_sizeT w h6, q1]
    | some ad =>
      simp only [] at q2
      simp [execOp, he, resolve, hc, invoke, builtin, toList_of_eq has, Builtin.copy_, hat, run_underlying hut, hz, l1, e0, run_sizeT w h6, q1, q2]
  split at hx
  · rename_i hm
    cases hx
    refine ⟨_, w, S, .inl (run [] w (by rw [hm]; exact l2) (by cases ad <;> simp [storeCells])), rfl, ?_, hW, Ext.refl S, Bel.refl B w⟩
    rw [hm]
    exact .one (.s (.frz (.int _ _)))
  · rename_i hm
    split at hx
    · cases hx
    · rename_i hhd
      have hhd : headOk sz src = true := by cases h : headOk sz src <;> simp_all
      have hne : src ≠ [] := by intro h; subst h; simp at hm
      split at hx
      · rename_i b v s off len
        split at hx
        · rename_i k hk
          split at hx
          · rename_i hss
            subst hss
            cases hx
            obtain ⟨d1, d2, d3, d4⟩ := curBlk_spec hk
            obtain ⟨g, rc, cur, hB⟩ := hW.blk b k d1 d2
            have hdl' : dl = len := by simp [evLen] at hdl; exact hdl.symm
            subst hdl'
            obtain ⟨ad', cap', k', hz', hk', hv, hcap, hbase, hR⟩ := rep_ref hp
            rw [d1] at hk'
            cases hk'
            rw [hz] at hz'
            simp only [Value.slice.injEq, true_and] at hz'
            obtain ⟨rfl, rfl⟩ := hz'
            obtain ⟨hlen, hR⟩ := hR d2 d3 d4
            obtain ⟨g', rc', hmu, ha, _⟩ := hR (.inl (by omega))
            rw [hB.mu] at hmu
            cases hmu
            subst ha
            have hsrc := src_of (P := P) hW hq h3 hhd hne
            obtain ⟨news, n1, n2, n3, n4⟩ := hsrc.take (min src.length dl) (Nat.min_le_left _ _)
            have hlt : (src.take (min src.length dl)).length = min src.length dl := by simp
            obtain ⟨S', e1, e2, e3, e4, e5⟩ := write_seg (S := S) hW d1 d2 hB off (src.take (min src.length dl)) news (by omega)
              (fun j r hj => by
                rw [List.getElem?_take] at hj
                split at hj
                · rw [d4]; exact hsrc.row j r hj
                · cases hj)
              (by rw [hlt, d4]; exact n1)
              (fun j c r xx hj hc => by
                rw [List.getElem?_take] at hj
                split at hj
                · rw [d4]; exact n4 j c r xx ‹_› hj hc
                · cases hj)
            rw [hlt] at e1
            refine ⟨_, _, S', .inl (run news _ (n2 w fun _ => rfl) ?_), e1, .one (.s (.frz (.int _ _))), e2, e3, e4⟩
            have hst := run_storeCells_at P g (off * s) k.ty news 0 cur w hB.heap (by simp; rw [d4] at e5; exact e5) n3
            simp only [Nat.add_zero] at hst
            rw [d4]
            exact hst
          · cases hx
        · cases hx
      · cases hx

def okClear (P : Program) (op : Op) (sz : Nat) (zero : List AV) (y : COpd) : Bool :=
  match op with
  | .call c => match c.callee with
    | .builtin .clear => match c.argTypes.toList, c.args.toList with
      | t :: _, [y'] => okOpd y' y && (match P.underlying t with
        | some (.slice e) => (match P.info? e with
          | some i => (match i.zero with | some zz => okCells zz.cells.toList zero && decide (zz.cells.size = sz) | none => false)
          | none => false)
        | _ => false)
      | _, _ => false
    | _ => false
  | _ => false
theorem zero_rows {zz : Array Value} {zero : List AV} {sz : Nat} (hz : okCells zz.toList zero = true) (hsz : zz.size = sz) (n : Nat) :
    (∀ (j : Nat) (r : List AV), (List.replicate n zero)[j]? = some r → r.length = sz) ∧ (Builtin.zeroCells zz n).size = n * sz ∧
    ∀ (j c : Nat) (r : List AV) (x : AV), (List.replicate n zero)[j]? = some r → r[c]? = some x → ∃ u, (Builtin.zeroCells zz n)[j * sz + c]? = some u ∧ RepS S x u := by
  have hr := okCells_rep S hz
  have hl : zero.length = sz := by rw [hr.1]; simpa using hsz
  refine ⟨fun j r hj => ?_, by simp [Builtin.zeroCells, hsz], fun j c r x hj hc => ?_⟩
  · rw [List.getElem?_replicate] at hj
    split at hj
    · cases hj; exact hl
    · cases hj
  · rw [List.getElem?_replicate] at hj
    split at hj
    · rename_i hjn
      cases hj
      obtain ⟨u, hu, hru⟩ := repL_get hr hc
      refine ⟨u, ?_, hru⟩
      have hcs : c < sz := by rw [← hl]; exact (List.getElem?_eq_some_iff.1 hc).1
      have hlt : j * sz + c < n * sz := by
        calc j * sz + c < j * sz + sz := by omega
          _ = (j + 1) * sz := by rw [Nat.add_mul, Nat.one_mul]
          _ ≤ n * sz := Nat.mul_le_mul_right _ hjn
      have hmod : (j * sz + c) % sz = c := by rw [Nat.mul_comm, Nat.mul_add_mod]; exact Nat.mod_eq_of_lt hcs
      have hzc : zz[c]? = some u := by simpa using hu
      simp only [Builtin.zeroCells, Array.getElem?_map, hsz, Array.getElem?_range, hlt, if_true, Option.map_some, hmod]
      simp [getElem!_def, hzc]
    · cases hj
theorem clear_sound (hW : WRel S w B) (hT : TRel S T a.tmps ss) {sz : Nat} {zero : List AV} {y : COpd} (ho : okClear P o.op sz zero y = true) (hs : ∀ t ∈ y.slots, t ∈ ss) {p : AV} {H' : Heap}
    (h1 : evOpd T y = some p) (hx : evClear sz zero S.H p = some H') : Does P S w B a o (.tup []) H' := by
  unfold okClear at ho
  split at ho
  case h_2 => simp at ho
  rename_i c he
  split at ho
  case h_2 => simp at ho
  rename_i hc
  split at ho
  case h_2 => simp at ho
  rename_i t ts y' hts has
  simp only [Bool.and_eq_true] at ho
  obtain ⟨h4, h6⟩ := ho
  split at h6
  case h_2 => simp at h6
  rename_i e hut
  split at h6
  case h_2 => simp at h6
  rename_i i hi
  split at h6
  case h_2 => simp at h6
  rename_i zz hzz
  simp only [Bool.and_eq_true, decide_eq_true_eq] at h6
  obtain ⟨h6, h7⟩ := h6
  have hp := opd_rep hT h4 hs h1
  have hat : c.argTypes[0]? = some t := by rw [toList_of_eq hts]; rfl
  have triv : ∀ ad cap, a.eval y' = .slice ad 0 cap → (execOp a.eval o).run P w = .ok (.value (.tuple #[])) w := by
    intro ad cap hz
    cases ad <;> simp [execOp, he, resolve, hc, invoke, builtin, toList_of_eq has, Builtin.clear_, hat, run_underlying hut, hz]
  have ht : RepV S (.tup []) (.tuple #[]) := .tup [] [] rfl (by simp)
  unfold evClear at hx
  split at hx
  · cases hx
    exact ⟨_, w, S, .inl (triv _ _ (rep_nils hp)), rfl, ht, hW, Ext.refl S, Bel.refl B w⟩
  · cases hx
    obtain ⟨ad, cap, hz⟩ := rep_emp hp
    exact ⟨_, w, S, .inl (triv _ _ hz), rfl, ht, hW, Ext.refl S, Bel.refl B w⟩
  · cases hx
    obtain ⟨ad, hz⟩ := rep_nil0 hp
    exact ⟨_, w, S, .inl (triv _ _ hz), rfl, ht, hW, Ext.refl S, Bel.refl B w⟩
  · cases hx
    obtain ⟨ad, cap, k, hz, _⟩ := rep_ref hp
    exact ⟨_, w, S, .inl (triv _ _ hz), rfl, ht, hW, Ext.refl S, Bel.refl B w⟩
  · rename_i b v s off len
    split at hx
    · rename_i k hk
      split at hx
      · rename_i hss
        subst hss
        cases hx
        obtain ⟨d1, d2, d3, d4⟩ := curBlk_spec hk
        obtain ⟨g, rc, cur, hB⟩ := hW.blk b k d1 d2
        obtain ⟨ad, cap, k', hz, hk', hv, hcap, hbase, hR⟩ := rep_ref hp
        rw [d1] at hk'
        cases hk'
        obtain ⟨hlen, hR⟩ := hR d2 d3 d4
        obtain ⟨g', rc', hmu, ha, _⟩ := hR (.inl (by omega))
        rw [hB.mu] at hmu
        cases hmu
        subst ha
        obtain ⟨z1, z2, z3⟩ := zero_rows (S := S) h6 h7 (len + 1)
        have hrl : (List.replicate (len + 1) zero).length = len + 1 := by simp
        obtain ⟨S', e1, e2, e3, e4, e5⟩ := write_seg (S := S) hW d1 d2 hB off (List.replicate (len + 1) zero) (Builtin.zeroCells zz.cells (len + 1)).toList (by rw [hrl]; omega)
          (fun j r hj => by rw [d4]; exact z1 j r hj)
          (by rw [hrl, d4]; simpa using z2)
          (fun j c r xx hj hc => by
            rw [d4]
            obtain ⟨u, hu, hru⟩ := z3 j c r xx hj hc
            exact ⟨u, by simpa using hu, hru⟩)
        rw [hrl] at e1
        have hone : ∀ v ∈ (Builtin.zeroCells zz.cells (len + 1)).toList, v.oneCell' = true := by
          intro v hv
          obtain ⟨n, hn⟩ := List.getElem?_of_mem hv
          have hr := okCells_rep S h6
          have hn' := (List.getElem?_eq_some_iff.1 hn).1
          rw [Array.length_toList, z2] at hn'
          have hpos : 0 < s := by
            rcases Nat.eq_zero_or_pos s with h0 | h0
            · rw [h0] at hn'; simp at hn'
            · exact h0
          have hm : n % s < zz.cells.size := by rw [h7]; exact Nat.mod_lt _ hpos
          have hm' : n % s < zero.length := by rw [hr.1]; simpa using hm
          have hz2 : zz.cells.toList[n % s]? = some zz.cells[n % s] := by simp [hm]
          have := (hr.2 (n % s) _ _ (List.getElem?_eq_getElem hm') hz2).oneCell
          simp only [Builtin.zeroCells, Array.toList_map, List.getElem?_map, h7, Array.toList_range, List.getElem?_range, hn', if_true, Option.map_some, Option.some.injEq] at hn
          rw [← hn]
          simpa [getElem!_def, hm] using this
        refine ⟨_, _, S', .inl ?_, e1, ht.ext e3, e2, e3, e4⟩
        have hst := run_storeCells_at P g (off * s) k.ty (Builtin.zeroCells zz.cells (len + 1)).toList 0 cur w hB.heap (by rw [d4] at e5; simpa using e5) hone
        simp only [Nat.add_zero] at hst
        rw [d4]
        simp [execOp, he, resolve, hc, invoke, builtin, toList_of_eq has, Builtin.clear_, hat, run_underlying hut, hz, zeroValue, typeInfo, hi, hzz, hst]
      · cases hx
    · cases hx
  · cases hx

def okMks (P : Program) (op : Op) (ty sz bytes : Nat) (zero : List AV) (y z : COpd) : Bool :=
  match op with
  | .makeSlice t y' z' => okOpd y' y && okOpd z' z && (match P.underlying t with
    | some (.slice e) => decide (e = ty) && (match P.info? e with
      | some i => decide (i.size = sz) && decide (i.bytes = bytes) && (match i.zero with | some zz => okCells zz.cells.toList zero && decide (zz.cells.size = sz) | none => false)
      | none => false)
    | _ => false)
  | _ => false
theorem mks_sound (hW : WRel S w B) (hT : TRel S T a.tmps ss) {ty sz bytes : Nat} {zero : List AV} {y z : COpd} (ho : okMks P o.op ty sz bytes zero y z = true) (hs : ∀ t ∈ y.slots ++ z.slots, t ∈ ss) {p q : AV} {l c : Nat}
    (h1 : evOpd T y = some p) (h2 : evOpd T z = some q) (hl : asNat p = some l) (hc : asNat q = some c) :
    (l ≤ c → c * bytes ≤ reach → c ≤ reach → 0 < l → Does P S w B a o (.ref S.H.length 0 sz 0 l) (S.H ++ [⟨0, true, ty, sz, List.replicate l zero⟩])) ∧ (l = 0 → c = 0 → Does P S w B a o .nil0 S.H) := by
  unfold okMks at ho
  split at ho
  case h_2 => simp at ho
  rename_i t y' z' he
  simp only [Bool.and_eq_true] at ho
  obtain ⟨⟨h4, h5⟩, h6⟩ := ho
  split at h6
  case h_2 => simp at h6
  rename_i e hut
  simp only [Bool.and_eq_true, decide_eq_true_eq] at h6
  obtain ⟨rfl, h6⟩ := h6
  split at h6
  case h_2 => simp at h6
  rename_i i hi
  simp only [Bool.and_eq_true, decide_eq_true_eq] at h6
  obtain ⟨⟨rfl, rfl⟩, h6⟩ := h6
  split at h6
  case h_2 => simp at h6
  rename_i zz hzz
  simp only [Bool.and_eq_true, decide_eq_true_eq] at h6
  obtain ⟨h6, h7⟩ := h6
  obtain ⟨kl, ml, rfl, hl0, rfl⟩ := asNat_spec hl
  obtain ⟨kc, mc, rfl, hc0, rfl⟩ := asNat_spec hc
  have hy := rep_int (opd_rep hT h4 (fun t ht => hs t (by simp [ht])) h1)
  have hz := rep_int (opd_rep hT h5 (fun t ht => hs t (by simp [ht])) h2)
  have run : ml ≤ mc → mc.toNat * i.bytes ≤ reach → mc.toNat ≤ reach → (execOp a.eval o).run P w = .ok (.value (.slice (some ⟨w.heap.size, 0, none⟩) ml.toNat mc.toNat)) (w.alloc (.cells (madeCells zz.cells (mc.toNat * i.size)) e)) := by
    intro q1 q2 q3
    unfold reach at q2 q3
    have q2' : (i.bytes : Int) * mc ≤ 281474976710656 := by
      have : mc = (mc.toNat : Int) := by omega
      rw [this, ← Int.natCast_mul, Nat.mul_comm]
      omega
    simp only [execOp, he, hy, hz, Sem.run_bind, run_make w t e i zz hut hi hzz kl kc ml mc hl0 q1 q2' (by omega), Result.andThen_ok, Sem.run_pure]
  refine ⟨fun q1 q2 q3 q4 => ?_, fun q1 q2 => ?_⟩
  · have hrun := run (by omega) q2 q3
    have hsz : (madeCells zz.cells (mc.toNat * i.size)).size = mc.toNat * i.size := size_madeCells _ _
    obtain ⟨z1, z2, z3⟩ := zero_rows (S := S) h6 h7 ml.toNat
    obtain ⟨S', a1, a2, a3, a4, a5⟩ := hW.push e i.size mc.toNat (List.replicate ml.toNat zero) (madeCells zz.cells (mc.toNat * i.size)) hsz (by simp; omega) (by unfold reach at q3; simp only [maxLen]; omega) z1
      (fun j c r xx hj hcx => by
        obtain ⟨u, hu, hru⟩ := z3 j c r xx hj hcx
        refine ⟨u, ?_, hru⟩
        have hlt := (Array.getElem?_eq_some_iff.1 hu).1
        rw [z2] at hlt
        have hlt2 : j * i.size + c < mc.toNat * i.size := Nat.lt_of_lt_of_le hlt (Nat.mul_le_mul_right _ q1)
        rw [← hu]
        simp only [Builtin.zeroCells, madeCells, Array.getElem?_map, Array.getElem?_range, h7, hlt, hlt2, if_true])
    refine ⟨_, _, S', .inl hrun, a1, .one (.s (.ref _ _ _ _ _ _ _ ⟨0, true, e, i.size, List.replicate ml.toNat zero⟩ ?_ (Nat.le_refl _) q1 rfl fun _ _ _ => ⟨by simp, fun _ => ⟨w.heap.size, mc.toNat, ?_, by simp, by omega⟩⟩)), a5, a4, (Bel.refl B w).alloc hW.base _⟩
    · rw [a1]; simp
    · rw [a2, ← hW.len]; simp
  · have hrun := run (by omega) (by rw [q2]; unfold reach; omega) (by rw [q2]; unfold reach; omega)
    rw [q1, q2] at hrun
    exact ⟨_, _, S, .inl hrun, rfl, .one (.s (.frz (.nil0 _))), hW.alloc _, Ext.refl S, (Bel.refl B w).alloc hW.base _⟩

def okBParts : List (Nat × Operand) → List (Nat × COpd) → Bool
  | [], [] => true
  | (i, z) :: l, (j, y) :: m => decide (i = j) && okOpd z y && okBParts l m
  | _, _ => false
def okBslice (P : Program) (op : Op) (ty sz : Nat) (els : List (List AV)) (ps : List (Nat × COpd)) : Bool :=
  match op with
  | .buildSlice t len qs => (match P.underlying t with
    | some (.slice e) => decide (e = ty) && (match P.info? e with
      | some i => decide (i.size = sz) && (match i.zero with | some zz => els.all (fun r => okCells zz.cells.toList r) && decide (zz.cells.size = sz) | none => false)
      | none => false)
    | _ => false) && decide (els.length = len) && decide (0 < sz) && decide (len * sz ≤ 16777216) && okBParts qs.toList ps
  | _ => false
/-- rows, one behind the other, in a list of values -/
structure RowVals (S : Sta) (els : List (List AV)) (sz : Nat) (vs : List Value) : Prop where
  len : vs.length = els.length * sz
  row : ∀ (j : Nat) (r : List AV), els[j]? = some r → r.length = sz
  cell : ∀ (j c : Nat) (r : List AV) (x : AV), els[j]? = some r → r[c]? = some x → ∃ u, vs[j * sz + c]? = some u ∧ RepS S x u
theorem foldl_set_get (us : List Value) : ∀ (off n : Nat) (vs : List Value), off + n + us.length ≤ vs.length → ∀ k, ((us.zipIdx n).foldl (fun cs (p : Value × Nat) => cs.set (off + p.2) p.1) vs)[k]? = if off + n ≤ k ∧ k < off + n + us.length then us[k - (off + n)]? else vs[k]? := by
  induction us with
  | nil => intro off n vs _ k; simp; omega
  | cons u us ih =>
    intro off n vs h k
    simp only [List.length_cons] at h
    simp only [List.zipIdx_cons, List.foldl_cons]
    rw [ih off (n + 1) (vs.set (off + n) u) (by simp; omega) k]
    by_cases h1 : off + (n + 1) ≤ k ∧ k < off + (n + 1) + us.length
    · rw [if_pos h1, if_pos (by simp only [List.length_cons]; omega), show k - (off + n) = (k - (off + (n + 1))) + 1 by omega]
      simp
    · rw [if_neg h1]
      by_cases h2 : k = off + n
      · subst h2
        rw [if_pos (by simp only [List.length_cons]; omega)]
        simp [List.getElem?_set]
        omega
      · rw [if_neg (by simp only [List.length_cons]; omega), List.getElem?_set_ne (fun e => h2 e.symm)]
theorem foldl_set_len (us : List (Value × Nat)) (off : Nat) : ∀ (vs : List Value), (us.foldl (fun cs (p : Value × Nat) => cs.set (off + p.2) p.1) vs).length = vs.length := by
  induction us with
  | nil => intro vs; rfl
  | cons u us ih => intro vs; simp only [List.foldl_cons]; rw [ih]; simp
theorem bfill_rep (hT : TRel S T a.tmps ss) {sz : Nat} : ∀ (qs : List (Nat × Operand)) (ps : List (Nat × COpd)) (els : List (List AV)) (vs : List Value) (ds : List (List AV)), RowVals S els sz vs → okBParts qs ps = true →
    (∀ t ∈ ps.flatMap (fun p => p.2.slots), t ∈ ss) → fillEls sz T els ps = some ds →
    ∃ us : List Value, Instr.fill (fun i => some (i * sz, sz)) vs.toArray (qs.map fun p => (p.1, a.eval p.2)) = some us.toArray ∧ RowVals S ds sz us ∧ ds.length = els.length
  | [], [], els, vs, ds, h, _, _, hf => by
    simp [fillEls] at hf
    subst hf
    exact ⟨vs, by simp [Instr.fill], h, rfl⟩
  | [], _ :: _, _, _, _, _, h, _, _ => by simp [okBParts] at h
  | (_, _) :: _, [], _, _, _, _, h, _, _ => by simp [okBParts] at h
  | (i, z) :: qs, (j, y) :: ps, els, vs, ds, h, hok, hs, hf => by
    simp only [okBParts, Bool.and_eq_true, decide_eq_true_eq] at hok
    obtain ⟨⟨rfl, h2⟩, h3⟩ := hok
    simp only [fillEls] at hf
    cases hv : evOpd T y with
    | none => simp [hv] at hf
    | some v =>
      simp only [hv] at hf
      split at hf
      · rename_i hc
        obtain ⟨hc1, hc2, hc3⟩ := hc
        have hr := rep1_cells (rep1_of (opd_rep hT h2 (fun t ht => hs t (by simp [ht])) hv) hc3)
        have hcl := hr.1
        have hsz : (a.eval z).cells.size = sz := by rw [← Array.length_toList, ← hcl]; exact hc1
        have hlen : i * sz + sz ≤ vs.length := by
          rw [h.len]
          calc i * sz + sz = (i + 1) * sz := by rw [Nat.add_mul, Nat.one_mul]
            _ ≤ els.length * sz := Nat.mul_le_mul_right _ hc2
        have hget := foldl_set_get (a.eval z).cells.toList (i * sz) 0 vs (by simp [hsz]; omega)
        have hnew : RowVals S (els.set i v.cells) sz ((a.eval z).cells.toList.zipIdx.foldl (fun cs (p : Value × Nat) => cs.set (i * sz + p.2) p.1) vs) := by
          refine ⟨by rw [foldl_set_len, h.len]; simp, fun j r hj => ?_, fun j c r x hj hcx => ?_⟩
          · by_cases hji : j = i
            · subst hji
              simp [List.getElem?_set, hc2] at hj
              subst hj; exact hc1
            · rw [List.getElem?_set_ne (fun e => hji e.symm)] at hj
              exact h.row j r hj
          · by_cases hji : j = i
            · subst hji
              simp [List.getElem?_set, hc2] at hj
              subst hj
              obtain ⟨u, hu, hru⟩ := repL_get hr hcx
              have := (List.getElem?_eq_some_iff.1 hcx).1
              refine ⟨u, ?_, hru⟩
              rw [hget, if_pos (by simp [hsz]; omega), ← hu]
              congr 1; omega
            · rw [List.getElem?_set_ne (fun e => hji e.symm)] at hj
              obtain ⟨u, hu, hru⟩ := h.cell j c r x hj hcx
              have hcs : c < sz := by rw [← h.row j r hj]; exact (List.getElem?_eq_some_iff.1 hcx).1
              refine ⟨u, ?_, hru⟩
              rw [hget, if_neg]
              · exact hu
              · simp only [Nat.add_zero, Array.length_toList, hsz]
                rintro ⟨q1, q2⟩
                have := idx_inj (sz := sz) (j := j) (i := i) (c := c) (d := j * sz + c - i * sz) hcs (by omega) (by omega)
                omega
        obtain ⟨us, h4, h5, h6⟩ := bfill_rep hT qs ps _ _ ds hnew h3 (fun t ht => hs t (by simp at ht ⊢; exact .inr ht)) hf
        refine ⟨us, ?_, h5, by rw [h6]; simp⟩
        simp only [List.map_cons, Instr.fill]
        rw [if_neg (by simp [hsz]; omega)]
        rw [← h4]
        congr 1
        apply Array.ext'
        have gen : ∀ (us : List (Value × Nat)) (vs : Array Value), (us.foldl (fun (cs : Array Value) (p : Value × Nat) => cs.setIfInBounds (i * sz + p.2) p.1) vs).toList = us.foldl (fun cs (p : Value × Nat) => cs.set (i * sz + p.2) p.1) vs.toList := by
          intro us
          induction us with
          | nil => intro vs; rfl
          | cons u us ih => intro vs; simp only [List.foldl_cons]; rw [ih]; simp
        have e2 := gen (a.eval z).cells.toList.zipIdx vs.toArray
        rw [← Array.foldl_toList, Array.toList_zipIdx]
        exact e2
      · cases hf
theorem bslice_sound (hW : WRel S w B) (hT : TRel S T a.tmps ss) {ty sz : Nat} {els : List (List AV)} {ps : List (Nat × COpd)} (ho : okBslice P o.op ty sz els ps = true) (hs : ∀ t ∈ ps.flatMap (fun p => p.2.slots), t ∈ ss) {ds : List (List AV)} (hf : fillEls sz T els ps = some ds) :
    (ds = [] → Does P S w B a o .nil0 S.H) ∧ (∀ e es, ds = e :: es → Does P S w B a o (.ref S.H.length 0 sz 0 (es.length + 1)) (S.H ++ [⟨0, true, ty, sz, e :: es⟩])) := by
  unfold okBslice at ho
  split at ho
  case h_2 => simp at ho
  rename_i t len qs he
  simp only [Bool.and_eq_true, decide_eq_true_eq] at ho
  obtain ⟨⟨⟨⟨h6, h8⟩, h9⟩, h10⟩, h11⟩ := ho
  split at h6
  case h_2 => simp at h6
  rename_i e hut
  simp only [Bool.and_eq_true, decide_eq_true_eq] at h6
  obtain ⟨rfl, h6⟩ := h6
  split at h6
  case h_2 => simp at h6
  rename_i i hi
  simp only [Bool.and_eq_true, decide_eq_true_eq] at h6
  obtain ⟨rfl, h6⟩ := h6
  split at h6
  case h_2 => simp at h6
  rename_i zz hzz
  simp only [Bool.and_eq_true, decide_eq_true_eq] at h6
  obtain ⟨h6, h7⟩ := h6
  subst h8
  have hini : RowVals S els i.size ((Array.range (els.length * i.size)).map (zz.cells[· % zz.cells.size]!)).toList := by
    have hall := List.all_eq_true.1 h6
    refine ⟨by simp, fun j r hj => ?_, fun j c r x hj hc => ?_⟩
    · have := okCells_rep S (hall r (List.mem_of_getElem? hj))
      rw [this.1]; simpa using h7
    · have hr := okCells_rep S (hall r (List.mem_of_getElem? hj))
      obtain ⟨u, hu, hru⟩ := repL_get hr hc
      refine ⟨u, ?_, hru⟩
      have hcs : c < i.size := by rw [← h7]; have := (List.getElem?_eq_some_iff.1 hu).1; simpa using this
      have hjl := (List.getElem?_eq_some_iff.1 hj).1
      have hlt : j * i.size + c < els.length * i.size := by
        calc j * i.size + c < j * i.size + i.size := by omega
          _ = (j + 1) * i.size := by rw [Nat.add_mul, Nat.one_mul]
          _ ≤ els.length * i.size := Nat.mul_le_mul_right _ hjl
      have hmod : (j * i.size + c) % i.size = c := by rw [Nat.mul_comm, Nat.mul_add_mod]; exact Nat.mod_eq_of_lt hcs
      have hzc : zz.cells[c]? = some u := by simpa using hu
      rw [Array.getElem?_toList]
      simp only [Array.getElem?_map, h7, Array.getElem?_range, hlt, if_true, Option.map_some, hmod]
      simp [getElem!_def, hzc]
  obtain ⟨us, f1, f2, f3⟩ := bfill_rep hT qs.toList ps els _ ds hini h11 hs hf
  have hrun : (execOp a.eval o).run P w = .ok (.value (.slice (some ⟨w.heap.size, 0, none⟩) els.length els.length)) (w.alloc (.cells us.toArray e)) := by
    have hbig : ¬ (16777216 < els.length * i.size) := by omega
    have hmap : (Array.map (fun (p : Nat × Operand) => (p.1, a.eval p.2)) qs).toList = qs.toList.map fun p => (p.1, a.eval p.2) := by simp
    rw [Array.toArray_toList] at f1
    by_cases h0 : els.length * i.size = 0
    · have h00 : els.length = 0 := by
        rcases Nat.mul_eq_zero.1 h0 with h | h
        · exact h
        · omega
      have f1' : Instr.fill (fun x => some (x * i.size, i.size)) #[] (qs.toList.map fun p => (p.1, a.eval p.2)) = some us.toArray := by
        rw [← f1, h0, show Array.map (fun x => zz.cells[x % zz.cells.size]!) (Array.range 0) = #[] from Array.ext' (by simp)]
      simp [execOp, he, Instr.buildSlice, run_underlying hut, sizeOf, typeInfo, hi, hbig, h0, h00, f1', newRow, Array.range_zero']
    · simp [execOp, he, Instr.buildSlice, run_underlying hut, sizeOf, typeInfo, zeroValue, hi, hzz, hbig, h0, f1, newRow]
  refine ⟨fun hd => ?_, fun d ds' hd => ?_⟩
  · subst hd
    have h00 : els.length = 0 := by rw [← f3]; rfl
    rw [h00] at hrun
    exact ⟨_, _, S, .inl hrun, rfl, .one (.s (.frz (.nil0 _))), hW.alloc _, Ext.refl S, (Bel.refl B w).alloc hW.base _⟩
  · have hlen : els.length = ds'.length + 1 := by rw [← f3, hd]; rfl
    rw [hlen] at hrun
    have f2l := f2.len
    obtain ⟨S', a1, a2, a3, a4, a5⟩ := hW.push e i.size (ds'.length + 1) ds us.toArray (by rw [hd] at f2l; simpa using f2l) (by rw [hd]; simp) (by
        have : ds'.length + 1 ≤ (ds'.length + 1) * i.size := Nat.le_mul_of_pos_right _ h9
        rw [hlen] at h10
        simp only [maxLen]; omega) f2.row
      (fun j c r xx hj hcx => by
        obtain ⟨u, hu, hru⟩ := f2.cell j c r xx hj hcx
        exact ⟨u, by simpa using hu, hru⟩)
    rw [hd] at a1
    refine ⟨_, _, S', .inl hrun, a1, .one (.s (.ref _ _ _ _ _ _ _ ⟨0, true, e, i.size, d :: ds'⟩ ?_ (Nat.le_refl _) (Nat.le_refl _) rfl fun _ _ _ => ⟨by simp, fun _ => ⟨w.heap.size, ds'.length + 1, ?_, by simp, by omega⟩⟩)), a5, a4, (Bel.refl B w).alloc hW.base _⟩
    · rw [a1]; simp
    · rw [a2, ← hW.len]; simp
end ops
end Go.Proofs.YtbdpceigmnpoaaaGreatDoor.Ev
