/- append, copy, clear, make, slices built. -/
import Derived.Test.YtbdpceigmnpoaaaGreatDoorEvG
set_option linter.unusedSimpArgs false
set_option linter.unusedVariables false
namespace Go.Proofs.YtbdpceigmnpoaaaGreatDoor.Ev
open Go.RowKit

theorem toList_of_eq {α : Type} {xs : Array α} {l : List α} (h : xs.toList = l) : xs = l.toArray := by rw [← h]

section ops
variable {P : Program} {S : Sta} {w : World} {B : Nat} {T : Env} {a : Act} {ss : List Nat} {o : Oper} {x : AV}

def okApp (P : Program) (op : Op) (ty sz bytes : Nat) (y z : COpd) : Bool :=
  match op with
  | .call c => match c.callee with
    | .builtin .append => match c.argTypes.toList, c.args.toList with
      | [t, u], [y', z'] => okOpd y' y && okOpd z' z && (match P.underlying t with
        | some (.slice e) => decide (e = ty) && (match P.info? e with
          | some i => decide (i.size = sz) && decide (i.bytes = bytes) && (match i.zero with | some zz => decide (zz.cells.size = sz) | none => false)
          | none => false)
        | _ => false) && (match P.underlying u with
        | some (.slice _) => true
        | some .string => true
        | _ => false)
      | _, _ => false
    | _ => false
  | _ => false

theorem src_empty (hW : WRel S w B) {p : AV} {u : Value} (hr : RepV S p u) (hl : srcRows S.H p = some []) (sz : Nat) : (Builtin.lenOf u).run P w = .ok 0 w ∧ (Builtin.firstCells sz 0 u).run P w = .ok #[] w := by
  unfold srcRows at hl
  split at hl
  · rename_i s
    simp only [Option.some.injEq] at hl
    have hs : s.size = 0 := by
      have := congrArg List.length hl
      simpa [byteRows] using this
    rw [rep_str hr]
    refine ⟨by simp [Builtin.lenOf, hs], ?_⟩
    simp only [Builtin.firstCells, Sem.run_pure]
    congr 1
    apply Array.ext'
    simp [ByteArray.data_extract, List.extract_eq_take_drop]
  · obtain ⟨ad, cap, sz', hu, hR⟩ := rows_sound hW hr hl
    rw [hu]
    refine ⟨by simp [Builtin.lenOf], ?_⟩
    cases ad <;> simp [Builtin.firstCells, loadCells, loadCellsFrom]

theorem cat_cell {els src : List (List AV)} {sz len : Nat} {olds news rest : List Value} (ho : olds.length = len * sz) (hl : len ≤ els.length)
    (hrow : ∀ (j : Nat) (r : List AV), src[j]? = some r → r.length = sz) (hnl : news.length = src.length * sz)
    (hrow' : ∀ (j : Nat) (r : List AV), els[j]? = some r → r.length = sz)
    (hO : ∀ (j c : Nat) (r : List AV) (x : AV), j < len → els[j]? = some r → r[c]? = some x → ∃ u, olds[j * sz + c]? = some u ∧ RepS S x u)
    (hN : ∀ (j c : Nat) (r : List AV) (x : AV), src[j]? = some r → r[c]? = some x → ∃ u, news[j * sz + c]? = some u ∧ RepS S x u) :
    ∀ (j c : Nat) (r : List AV) (x : AV), (els.take len ++ src)[j]? = some r → r[c]? = some x → ∃ u, (olds ++ news ++ rest)[j * sz + c]? = some u ∧ RepS S x u := by
  intro j c r x hj hc
  have hlen : (els.take len).length = len := by simp; omega
  have hcl := (List.getElem?_eq_some_iff.1 hc).1
  by_cases hjl : j < len
  · rw [List.getElem?_append_left (by omega), List.getElem?_take, if_pos hjl] at hj
    obtain ⟨u, hu, hr⟩ := hO j c r x hjl hj hc
    have := (List.getElem?_eq_some_iff.1 hu).1
    exact ⟨u, by rw [List.append_assoc, List.getElem?_append_left this]; exact hu, hr⟩
  · rw [List.getElem?_append_right (by omega), hlen] at hj
    obtain ⟨u, hu, hr⟩ := hN (j - len) c r x hj hc
    refine ⟨u, ?_, hr⟩
    have hk : j * sz = len * sz + (j - len) * sz := by rw [← Nat.add_mul]; congr 1; omega
    have := (List.getElem?_eq_some_iff.1 hu).1
    rw [List.append_assoc, List.getElem?_append_right (by omega), ho, List.getElem?_append_left (by omega)]
    rw [← hu]; congr 1; omega

/-- a new block with what is there and what comes -/
theorem grow_push (hW : WRel S w B) {e sz : Nat} {els src : List (List AV)} {len n cap : Nat} {olds news : List Value} {zz : Value} (hz : zz.cells.size = sz) (hcap : len + n ≤ cap) (hmax : cap ≤ maxLen) (hn : src.length = n)
    (ho : olds.length = len * sz) (hl : len ≤ els.length) (hrow : ∀ (j : Nat) (r : List AV), src[j]? = some r → r.length = sz) (hnl : news.length = n * sz) (hrow' : ∀ (j : Nat) (r : List AV), els[j]? = some r → r.length = sz)
    (hO : ∀ (j c : Nat) (r : List AV) (x : AV), j < len → els[j]? = some r → r[c]? = some x → ∃ u, olds[j * sz + c]? = some u ∧ RepS S x u)
    (hN : ∀ (j c : Nat) (r : List AV) (x : AV), src[j]? = some r → r[c]? = some x → ∃ u, news[j * sz + c]? = some u ∧ RepS S x u) :
    ∃ S', S'.H = S.H ++ [⟨0, true, e, sz, els.take len ++ src⟩] ∧ RepV S' (.ref S.H.length 0 sz 0 (len + n)) (.slice (some ⟨w.heap.size, 0, none⟩) (len + n) cap) ∧
      WRel S' (w.drew.alloc (.cells (olds.toArray ++ news.toArray ++ Builtin.zeroCells zz.cells (cap - (len + n))) e)) B ∧ Ext S S' ∧ Bel B w (w.drew.alloc (.cells (olds.toArray ++ news.toArray ++ Builtin.zeroCells zz.cells (cap - (len + n))) e)) := by
  have hlen : (els.take len ++ src).length = len + n := by simp; omega
  obtain ⟨S', h1, h2, h3, h4, h5⟩ := hW.drew.push e sz cap (els.take len ++ src) (olds.toArray ++ news.toArray ++ Builtin.zeroCells zz.cells (cap - (len + n)))
    (by simp only [Array.size_append, List.size_toArray, size_zeroCells, hz, ho, hnl, ← Nat.add_mul]; congr 1; omega)
    (by omega) hmax
    (fun j r hj => by
      by_cases hjl : j < (els.take len).length
      · rw [List.getElem?_append_left hjl, List.getElem?_take] at hj
        split at hj
        · exact hrow' j r hj
        · cases hj
      · rw [List.getElem?_append_right (by omega)] at hj
        exact hrow _ r hj)
    (fun j c r x hj hc => by
      obtain ⟨u, hu, hr⟩ := cat_cell (S := S) (rest := (Builtin.zeroCells zz.cells (cap - (len + n))).toList) ho hl hrow (by rw [hn]; exact hnl) hrow' hO hN j c r x hj hc
      refine ⟨u, ?_, hr⟩
      rw [← hu, ← Array.getElem?_toList]
      simp)
  refine ⟨S', h1, .one (.s (.ref _ _ _ _ _ _ _ ⟨0, true, e, sz, els.take len ++ src⟩ ?_ (Nat.le_refl _) (by omega) rfl fun _ _ _ => ⟨by simp only [hlen]; omega, fun _ => ⟨w.heap.size, cap, ?_, by simp, by omega⟩⟩)), h5, h4, ((Bel.refl B w).drew).alloc hW.base _⟩
  · rw [h1]; simp
  · rw [h2, ← hW.len]; simp

theorem app_sound (hW : WRel S w B) (hT : TRel S T a.tmps ss) {ty sz bytes : Nat} {keep : Bool} {y z : COpd} (ho : okApp P o.op ty sz bytes y z = true) (hs : ∀ t ∈ y.slots ++ z.slots, t ∈ ss) {p q : AV} {src : List (List AV)} {H' : Heap}
    (h1 : evOpd T y = some p) (h2 : evOpd T z = some q) (h3 : srcRows S.H q = some src) (hx : evApp ty sz bytes keep S.H p src = some (x, H')) : Does P S w B a o x H' := by
  unfold okApp at ho
  split at ho
  case h_2 => simp at ho
  rename_i c he
  split at ho
  case h_2 => simp at ho
  rename_i hc
  split at ho
  case h_2 => simp at ho
  rename_i t u y' z' hts has
  simp only [Bool.and_eq_true] at ho
  obtain ⟨⟨⟨h4, h5⟩, h6⟩, h7⟩ := ho
  split at h6
  case h_2 => simp at h6
  rename_i e hut
  simp only [Bool.and_eq_true, decide_eq_true_eq] at h6
  obtain ⟨rfl, h6⟩ := h6
  split at h6
  case h_2 => simp at h6
  rename_i i hi
  simp only [Bool.and_eq_true, decide_eq_true_eq] at h6
  obtain ⟨⟨rfl, rfl⟩, h6⟩ := h6
  split at h6
  case h_2 => simp at h6
  rename_i zz hzz
  simp only [decide_eq_true_eq] at h6
  have huu : (∃ e', P.underlying u = some (.slice e')) ∨ P.underlying u = some .string := by
    split at h7
    · exact .inl ⟨_, ‹_›⟩
    · exact .inr ‹_›
    · simp at h7
  have hp := opd_rep hT h4 (fun t ht => hs t (by simp [ht])) h1
  have hq := opd_rep hT h5 (fun t ht => hs t (by simp [ht])) h2
  have drop : ∀ (v : Value) (w' : World), (Builtin.append_ #[t, u] o.type #[a.eval y', a.eval z']).run P w = .ok v w' → (execOp a.eval o).run P w = .ok (.value v) w' := by
    intro v w' h
    simp [execOp, he, resolve, hc, invoke, builtin, toList_of_eq hts, toList_of_eq has, h]
  unfold evApp at hx
  split at hx
  · rename_i hemp
    have hnil : src = [] := by simpa using hemp
    subst hnil
    split at hx
    · rename_i hsome
      cases hx
      obtain ⟨n, hn⟩ := Option.isSome_iff_exists.1 hsome
      obtain ⟨ad, cap, hz, hle⟩ := evLen_slice hp hn
      obtain ⟨e1, e2⟩ := src_empty (P := P) hW hq h3 i.size
      refine ⟨a.eval y', w, S, .inl (drop _ _ ?_), rfl, hp, hW, Ext.refl S, Bel.refl B w⟩
      rw [hz, run_app_room P hut hi huu w ad n cap (a.eval z') 0 [] e1 e2 (by omega)]
      cases ad <;> simp [storeCells]
    · cases hx
  · rename_i hemp
    have hne : src ≠ [] := by intro h; subst h; simp at hemp
    split at hx
    · cases hx
    · rename_i hhd
      have hhd : headOk i.size src = true := by cases h : headOk i.size src <;> simp_all
      have hsrc := src_of (P := P) hW hq h3 hhd hne
      obtain ⟨news, n1, n2, n3, n4⟩ := hsrc.take src.length (Nat.le_refl _)
      have hpos : 0 < src.length := List.length_pos_iff.2 hne
      have hN : ∀ (j c : Nat) (r : List AV) (x : AV), src[j]? = some r → r[c]? = some x → ∃ u, news[j * i.size + c]? = some u ∧ RepS S x u :=
        fun j c r x hj hc => n4 j c r x (List.getElem?_eq_some_iff.1 hj).1 hj hc
      -- from nothing
      have fresh : ∀ ad, a.eval y' = .slice ad 0 0 → src.length * i.bytes ≤ reach → src.length ≤ reach → Does P S w B a o (.ref S.H.length 0 i.size 0 src.length) (S.H ++ [⟨0, true, e, i.size, src⟩]) := by
        intro ad hz hb hr
        have ho' : (Builtin.firstCells i.size 0 (.slice ad 0 0)).run P w.drew = .ok ([] : List Value).toArray w.drew := by cases ad <;> simp [Builtin.firstCells, loadCells, loadCellsFrom]
        have hrun := run_app_grow P (ty := o.type) hut hi hzz huu w ad 0 0 (a.eval z') src.length [] news (hsrc.len w) (n2 w.drew fun _ => rfl) ho' (by omega) (by omega) (by rw [Nat.zero_add]; exact hb)
        have hge := grownCap_ge w (0 + src.length) 0 e
        have hmx : grownCap w (0 + src.length) 0 e ≤ maxLen := grownCap_le_maxLen w _ 0 e (by unfold reach at hr; simp only [maxLen]; omega)
        obtain ⟨S', a1, a2, a3, a4, a5⟩ := grow_push (S := S) (w := w) (B := B) (e := e) (els := []) (src := src) (len := 0) (n := src.length) (olds := []) (news := news) hW h6 hge hmx rfl (by simp) (by simp) hsrc.row n1 (by simp) (by simp) hN
        rw [← hz] at hrun
        refine ⟨_, _, S', .inl (drop _ _ hrun), by simpa using a1, by simpa using a2, a3, a4, a5⟩
      split at hx
      · split at hx
        · cases hx
          exact fresh none (rep_nils hp) (by rename_i h; exact h.1) (by rename_i h; exact h.2)
        · cases hx
      · split at hx
        · cases hx
          obtain ⟨ad, hz⟩ := rep_nil0 hp
          exact fresh ad hz (by rename_i h; exact h.1) (by rename_i h; exact h.2)
        · cases hx
      · rename_i b v s off len
        split at hx
        · rename_i k hk
          split at hx
          · rename_i hcond
            obtain ⟨rfl, hty, hb, hr⟩ := hcond
            cases hx
            obtain ⟨d1, d2, d3, d4⟩ := curBlk_spec hk
            obtain ⟨g, rc, cur, hB⟩ := hW.blk b k d1 d2
            obtain ⟨ad, k', hz, hk', hv, hat⟩ := rep_cref hp
            rw [d1] at hk'
            cases hk'
            obtain ⟨hlen, g', rc', hm, rfl⟩ := hat d2 d3 d4
            rw [hB.mu] at hm
            cases hm
            have hcl : cur.toList.length = cur.size := by simp
            have hle : (off + len) * i.size ≤ cur.size := by
              rw [hB.size, d4]; exact Nat.mul_le_mul_right _ (by have := hB.le; omega)
            rw [Nat.add_mul] at hle
            have hol : ((cur.toList.drop (off * i.size)).take (len * i.size)).length = len * i.size := by simp; omega
            have ho' : (Builtin.firstCells i.size len (.slice (some ⟨g, off * i.size, none⟩) len len)).run P w.drew = .ok ((cur.toList.drop (off * i.size)).take (len * i.size)).toArray w.drew := by
              refine run_firstCells_some w.drew i.size len _ len len _ hol fun j v hj => ?_
              rw [List.getElem?_take] at hj
              split at hj
              · rw [List.getElem?_drop] at hj
                rw [World.cell?_drew, cell_at hB.heap]
                simpa using hj
              · cases hj
            have hrun := run_app_grow P (ty := o.type) hut hi hzz huu w (some ⟨g, off * i.size, none⟩) len len (a.eval z') src.length _ news (hsrc.len w) (n2 w.drew fun _ => rfl) ho' (by omega) hr hb
            have hge := grownCap_ge w (len + src.length) len e
            have hmx : grownCap w (len + src.length) len e ≤ maxLen := grownCap_le_maxLen w _ len e (by unfold reach at hr; simp only [maxLen]; omega)
            obtain ⟨S', a1, a2, a3, a4, a5⟩ := grow_push (S := S) (w := w) (B := B) (e := e) (els := k.els.drop off) (src := src) (len := len) (n := src.length) (news := news) hW h6 hge hmx rfl hol (by simp; omega) hsrc.row n1
              (fun j r hj => by rw [List.getElem?_drop] at hj; rw [← d4]; exact hB.row _ _ hj)
              (fun j c r x hj hjr hc => by
                rw [List.getElem?_drop] at hjr
                obtain ⟨u, hu, hru⟩ := hB.cell _ c r x hjr hc
                have hcl2 : c < i.size := by rw [← d4, ← hB.row _ r hjr]; exact (List.getElem?_eq_some_iff.1 hc).1
                refine ⟨u, ?_, hru⟩
                rw [List.getElem?_take, if_pos, List.getElem?_drop]
                · rw [d4, Nat.add_mul] at hu
                  rw [← Nat.add_assoc, Array.getElem?_toList]; exact hu
                · calc j * i.size + c < j * i.size + i.size := by omega
                    _ = (j + 1) * i.size := by rw [Nat.add_mul, Nat.one_mul]
                    _ ≤ len * i.size := Nat.mul_le_mul_right _ hj) hN
            rw [← hz] at hrun
            exact ⟨_, _, S', .inl (drop _ _ hrun), a1, a2, a3, a4, a5⟩
          · cases hx
        · cases hx
      · rename_i b v s len
        split at hx
        · rename_i k hk
          split at hx
          · rename_i hcond
            obtain ⟨rfl, hty⟩ := hcond
            obtain ⟨d1, d2, d3, d4⟩ := curBlk_spec hk
            obtain ⟨g, rc, cur, hB⟩ := hW.blk b k d1 d2
            obtain ⟨ad, cap, k', hz, hk', hv, hcap, hbase, hat⟩ := rep_ref hp
            rw [d1] at hk'
            cases hk'
            obtain ⟨hlen, hat⟩ := hat d2 d3 d4
            obtain ⟨g', rc', hm, ha, hrc⟩ := hat (.inr rfl)
            rw [hB.mu] at hm
            cases hm
            simp only [Nat.zero_mul, Nat.zero_add] at ha hrc hlen
            subst ha
            subst hrc
            have hcl : cur.toList.length = cur.size := by simp
            have hcs : cur.size = cap * i.size := by rw [hB.size, d4]
            have hBle := hB.le
            -- in place
            have place : len + src.length ≤ cap → ∀ (ver : Nat) (tail : List (List AV)), k.ver ≤ ver → (ver = k.ver → k.els.length ≤ (k.els.take len ++ src ++ tail).length) → (k.els.take len ++ src ++ tail).length ≤ cap →
                (∀ (j : Nat) (r : List AV), tail[j]? = some r → k.els[len + src.length + j]? = some r) →
                ∃ w' S', (Builtin.append_ #[t, u] o.type #[a.eval y', a.eval z']).run P w = .ok (.slice (some ⟨g, 0, none⟩) (len + src.length) cap) w' ∧ S'.H = S.H.set b { k with ver := ver, els := k.els.take len ++ src ++ tail } ∧ S'.mu = S.mu.set b (g, cap) ∧ WRel S' w' B ∧ Ext S S' ∧ Bel B w w' := by
              intro hroom ver tail hver hsame hle2 htail
              have hfit : len * i.size + news.length ≤ cur.size := by
                rw [n1, hcs, ← Nat.add_mul]; exact Nat.mul_le_mul_right _ hroom
              have hst := run_storeCells_at P g (len * i.size) k.ty news 0 cur w hB.heap (by simpa using hfit) n3
              simp only [Nat.add_zero] at hst
              have hrun := run_app_room P (ty := o.type) hut hi huu w (some ⟨g, 0, none⟩) len cap (a.eval z') src.length news (hsrc.len w) (n2 w fun _ => rfl) hroom
              simp only [Addr.add_lit, Nat.zero_add, hst, Result.andThen_ok] at hrun
              rw [← hz] at hrun
              have hl1 : (k.els.take len).length = len := by simp; omega
              obtain ⟨S', e1, e2, e3, e4, e5⟩ := hW.write (w' := w.setRow g (cur.toList.take (len * i.size) ++ news ++ cur.toList.drop (len * i.size + news.length)).toArray) d1 d2 hB ver (k.els.take len ++ src ++ tail) hver g cap
                (cur' := (cur.toList.take (len * i.size) ++ news ++ cur.toList.drop (len * i.size + news.length)).toArray)
                (fun h => ⟨rfl, rfl, hsame h⟩)
                (by rw [← hB.size]; simp; omega) hle2 hB.max (.inl rfl) hB.base (setRow_heap w g cur _ k.ty (0, 0) hB.heap) (by simp) (fun x _ hne => setRow_other w g x _ hne)
                (fun j r hj => by
                  by_cases hj1 : j < len
                  · rw [List.append_assoc, List.getElem?_append_left (by omega), List.getElem?_take, if_pos hj1] at hj
                    exact hB.row j r hj
                  · by_cases hj2 : j < len + src.length
                    · rw [List.append_assoc, List.getElem?_append_right (by omega), List.getElem?_append_left (by omega)] at hj
                      rw [d4]; exact hsrc.row _ r hj
                    · rw [List.getElem?_append_right (by simp; omega)] at hj
                      exact hB.row _ r (htail _ r hj))
                (fun S' hE j c r xx hj hcx => by
                  have hget := seg_get cur.toList news (len * i.size) (by omega) (j * k.sz + c)
                  have hgoal : ∀ u, (if len * i.size ≤ j * k.sz + c ∧ j * k.sz + c < len * i.size + news.length then news[j * k.sz + c - len * i.size]? else cur.toList[j * k.sz + c]?) = some u →
                      (cur.toList.take (len * i.size) ++ news ++ cur.toList.drop (len * i.size + news.length)).toArray[j * k.sz + c]? = some u := by
                    intro u hu
                    rw [List.getElem?_toArray, hget]; exact hu
                  by_cases hj1 : j < len
                  · rw [List.append_assoc, List.getElem?_append_left (by omega), List.getElem?_take, if_pos hj1] at hj
                    obtain ⟨u, hu, hru⟩ := hB.cell j c r xx hj hcx
                    have hc2 : c < i.size := by rw [← d4, ← hB.row j r hj]; exact (List.getElem?_eq_some_iff.1 hcx).1
                    refine ⟨u, hgoal u ?_, hru.ext hE⟩
                    have hlt : j * i.size + c < len * i.size := by
                      calc j * i.size + c < j * i.size + i.size := by omega
                        _ = (j + 1) * i.size := by rw [Nat.add_mul, Nat.one_mul]
                        _ ≤ len * i.size := Nat.mul_le_mul_right _ hj1
                    rw [if_neg (by rw [d4]; omega)]
                    simpa using hu
                  · by_cases hj2 : j < len + src.length
                    · rw [List.append_assoc, List.getElem?_append_right (by omega), List.getElem?_append_left (by omega), hl1] at hj
                      obtain ⟨u, hu, hru⟩ := hN (j - len) c r xx hj hcx
                      refine ⟨u, hgoal u ?_, hru.ext hE⟩
                      have hlt := (List.getElem?_eq_some_iff.1 hu).1
                      have hk2 : j * i.size = len * i.size + (j - len) * i.size := by rw [← Nat.add_mul]; congr 1; omega
                      rw [if_pos (by rw [d4]; omega), d4, ← hu]
                      congr 1; omega
                    · have hl2 : (k.els.take len ++ src).length = len + src.length := by simp; omega
                      rw [List.getElem?_append_right (by omega), hl2] at hj
                      have hj3 := htail _ r hj
                      rw [show len + src.length + (j - (len + src.length)) = j by omega] at hj3
                      obtain ⟨u, hu, hru⟩ := hB.cell j c r xx hj3 hcx
                      refine ⟨u, hgoal u ?_, hru.ext hE⟩
                      have hge : (len + src.length) * i.size ≤ j * i.size := Nat.mul_le_mul_right _ (by omega)
                      rw [Nat.add_mul] at hge
                      rw [if_neg (by rw [d4, n1]; omega)]
                      simpa using hu)
              exact ⟨_, S', hrun, e1, e3, e5, e4, below_setRow' hB.base _⟩
            have hblt : b < S.H.length := (List.getElem?_eq_some_iff.1 d1).1
            split at hx
            · rename_i hkeep
              obtain ⟨_, hkeep⟩ := hkeep
              cases hx
              obtain ⟨w', S', r1, r2, r3, r4, r5, r6⟩ := place (by omega) k.ver (k.els.drop (len + src.length)) (Nat.le_refl _) (fun _ => by simp; omega) (by simp; omega)
                (fun j r hj => by rw [List.getElem?_drop] at hj; exact hj)
              have hbmu : b < S.mu.length := by rw [hW.len]; exact hblt
              refine ⟨_, w', S', .inl (drop _ _ r1), by rw [r2], .one (.s (.ref _ _ _ _ _ _ _ { k with ver := k.ver, els := k.els.take len ++ src ++ k.els.drop (len + src.length) } ?_ (by omega) (by omega) rfl fun _ _ _ => ⟨?_, fun _ => ⟨g, cap, ?_, by simp, by omega⟩⟩)), r4, r5, r6⟩
              · rw [r2]; simp [List.getElem?_set, hblt]
              · simp; omega
              · rw [r3]; simp [List.getElem?_set, hbmu]
            · split at hx
              · rename_i hcond2
                obtain ⟨hb, hr⟩ := hcond2
                cases hx
                have hbmu : b < S.mu.length := by rw [hW.len]; exact hblt
                have hfin : ∀ (S' : Sta) (g2 cap2 : Nat), S'.H = S.H.set b { k with ver := v + 1, els := k.els.take len ++ src } → S'.mu = S.mu.set b (g2, cap2) → len + src.length ≤ cap2 →
                    RepV S' (.ref b (v + 1) i.size 0 (len + src.length)) (.slice (some ⟨g2, 0, none⟩) (len + src.length) cap2) := by
                  intro S' g2 cap2 q1 q2 q3
                  refine .one (.s (.ref _ _ _ _ _ _ _ { k with ver := v + 1, els := k.els.take len ++ src } ?_ (Nat.le_refl _) q3 rfl fun _ _ _ => ⟨?_, fun _ => ⟨g2, cap2, ?_, by simp, by omega⟩⟩))
                  · rw [q1]; simp [List.getElem?_set, hblt]
                  · simp; omega
                  · rw [q2]; simp [List.getElem?_set, hbmu]
                by_cases hroom : len + src.length ≤ cap
                · obtain ⟨w', S', r1, r2, r3, r4, r5, r6⟩ := place hroom (v + 1) [] (by omega) (fun h => by omega) (by simp; omega) (by simp)
                  rw [List.append_nil] at r2
                  exact ⟨_, w', S', .inl (drop _ _ r1), r2, hfin S' g cap r2 r3 hroom, r4, r5, r6⟩
                · have hle : len * i.size ≤ cur.size := by rw [hcs]; exact Nat.mul_le_mul_right _ (by omega)
                  have hol : (cur.toList.take (len * i.size)).length = len * i.size := by simp; omega
                  have ho' : (Builtin.firstCells i.size len (.slice (some ⟨g, 0, none⟩) len cap)).run P w.drew = .ok (cur.toList.take (len * i.size)).toArray w.drew := by
                    refine run_firstCells_some w.drew i.size len _ len cap _ hol fun j v hj => ?_
                    rw [List.getElem?_take] at hj
                    split at hj
                    · rw [World.cell?_drew, cell_at hB.heap]
                      simpa using hj
                    · cases hj
                  have hrun := run_app_grow P (ty := o.type) hut hi hzz huu w (some ⟨g, 0, none⟩) len cap (a.eval z') src.length _ news (hsrc.len w) (n2 w.drew fun _ => rfl) ho' (by omega) hr hb
                  have hge := grownCap_ge w (len + src.length) cap e
                  have hmx : grownCap w (len + src.length) cap e ≤ maxLen := grownCap_le_maxLen w _ cap e (by unfold reach at hr; simp only [maxLen]; omega)
                  rw [← hz] at hrun
                  generalize hgc : grownCap w (len + src.length) cap e = gc at hrun hge hmx
                  have hl1 : (k.els.take len).length = len := by simp; omega
                  obtain ⟨S', e1, e2, e3, e4, e5⟩ := hW.write (w' := w.drew.alloc (.cells ((cur.toList.take (len * i.size)).toArray ++ news.toArray ++ Builtin.zeroCells zz.cells (gc - (len + src.length))) e)) d1 d2 hB (v + 1) (k.els.take len ++ src) (by omega) w.heap.size gc
                    (cur' := (cur.toList.take (len * i.size)).toArray ++ news.toArray ++ Builtin.zeroCells zz.cells (gc - (len + src.length)))
                    (fun h => by omega)
                    (by simp only [Array.size_append, List.size_toArray, size_zeroCells, h6, hol, n1, d4, ← Nat.add_mul]; congr 1; omega)
                    (by simp; omega) hmx (.inr (Nat.le_refl _)) hW.base (by rw [hty]; exact heap_alloc_new w.drew _) (by simp) (fun x hx _ => heap_alloc_old w.drew _ x hx)
                    (fun j r hj => by
                      by_cases hj1 : j < len
                      · rw [List.getElem?_append_left (by omega), List.getElem?_take, if_pos hj1] at hj
                        exact hB.row j r hj
                      · rw [List.getElem?_append_right (by omega)] at hj
                        rw [d4]; exact hsrc.row _ r hj)
                    (fun S' hE j c r xx hj hcx => by
                      obtain ⟨uu, hu, hru⟩ := cat_cell (S := S) (rest := (Builtin.zeroCells zz.cells (gc - (len + src.length))).toList) hol (by omega) hsrc.row n1 (fun j r hj => by rw [← d4]; exact hB.row j r hj)
                        (fun j c r x hj hjr hc => by
                          obtain ⟨u, hu, hru⟩ := hB.cell j c r x hjr hc
                          have hcl2 : c < i.size := by rw [← d4, ← hB.row _ r hjr]; exact (List.getElem?_eq_some_iff.1 hc).1
                          refine ⟨u, ?_, hru⟩
                          rw [List.getElem?_take, if_pos]
                          · rw [d4] at hu
                            rw [Array.getElem?_toList]; exact hu
                          · calc j * i.size + c < j * i.size + i.size := by omega
                              _ = (j + 1) * i.size := by rw [Nat.add_mul, Nat.one_mul]
                              _ ≤ len * i.size := Nat.mul_le_mul_right _ hj) hN j c r xx hj hcx
                      refine ⟨uu, ?_, hru.ext hE⟩
                      rw [d4, ← hu, ← Array.getElem?_toList]
                      simp)
                  exact ⟨_, _, S', .inl (drop _ _ hrun), e1, hfin S' w.heap.size gc e1 e3 hge, e5, e4, ((Bel.refl B w).drew).alloc hW.base _⟩
              · cases hx
          · cases hx
        · cases hx
      · cases hx
end ops
end Go.Proofs.YtbdpceigmnpoaaaGreatDoor.Ev
