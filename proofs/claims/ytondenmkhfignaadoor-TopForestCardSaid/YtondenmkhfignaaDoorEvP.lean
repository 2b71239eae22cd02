/- Rows as memory has them: taken, dropped, put together; copy and append, run. -/
import Derived.Test.YtondenmkhfignaaDoorEvN
set_option linter.unusedSimpArgs false
set_option linter.unusedVariables false
namespace Go.Proofs.YtondenmkhfignaaDoor.Ev
open Go.RowKit

section rows
variable {S : Sta} {sz : Nat} {a b : List (List AV)} {u v : List Value}
theorem seg_lt {n sz j c : Nat} (hj : j < n) (hc : c < sz) : j * sz + c < n * sz := by
  calc j * sz + c < j * sz + sz := by omega
    _ = (j + 1) * sz := by rw [Nat.add_mul, Nat.one_mul]
    _ ≤ n * sz := Nat.mul_le_mul_right _ hj
theorem RowVals.take (h : RowVals S a sz u) {n : Nat} (hn : n ≤ a.length) : RowVals S (a.take n) sz (u.take (n * sz)) := by
  refine ⟨?_, fun j r hj => ?_, fun j c r x hj hc => ?_⟩
  · rw [List.length_take, List.length_take, h.len, Nat.min_eq_left hn, Nat.min_eq_left (Nat.mul_le_mul_right _ hn)]
  · rw [List.getElem?_take] at hj
    split at hj
    · exact h.row j r hj
    · cases hj
  · rw [List.getElem?_take] at hj
    split at hj
    · rename_i hlt
      obtain ⟨w, hw, hr⟩ := h.cell j c r x hj hc
      refine ⟨w, ?_, hr⟩
      have hcs : c < sz := by rw [← h.row j r hj]; exact (List.getElem?_eq_some_iff.1 hc).1
      rw [List.getElem?_take, if_pos (seg_lt hlt hcs)]; exact hw
    · cases hj
theorem RowVals.drop (h : RowVals S a sz u) (n : Nat) : RowVals S (a.drop n) sz (u.drop (n * sz)) := by
  refine ⟨?_, fun j r hj => ?_, fun j c r x hj hc => ?_⟩
  · rw [List.length_drop, List.length_drop, h.len, Nat.sub_mul]
  · rw [List.getElem?_drop] at hj
    exact h.row _ r hj
  · rw [List.getElem?_drop] at hj
    obtain ⟨w, hw, hr⟩ := h.cell _ c r x hj hc
    refine ⟨w, ?_, hr⟩
    rw [List.getElem?_drop, ← hw, Nat.add_mul]
    congr 1; omega
theorem RowVals.append (h : RowVals S a sz u) (h' : RowVals S b sz v) : RowVals S (a ++ b) sz (u ++ v) := by
  refine ⟨?_, fun j r hj => ?_, fun j c r x hj hc => ?_⟩
  · rw [List.length_append, List.length_append, h.len, h'.len, Nat.add_mul]
  · by_cases hl : j < a.length
    · rw [List.getElem?_append_left hl] at hj; exact h.row j r hj
    · rw [List.getElem?_append_right (by omega)] at hj; exact h'.row _ r hj
  · by_cases hl : j < a.length
    · rw [List.getElem?_append_left hl] at hj
      obtain ⟨w, hw, hr⟩ := h.cell j c r x hj hc
      exact ⟨w, by rw [List.getElem?_append_left (List.getElem?_eq_some_iff.1 hw).1]; exact hw, hr⟩
    · rw [List.getElem?_append_right (by omega)] at hj
      obtain ⟨w, hw, hr⟩ := h'.cell _ c r x hj hc
      refine ⟨w, ?_, hr⟩
      have hk : j * sz = a.length * sz + (j - a.length) * sz := by rw [← Nat.add_mul]; congr 1; omega
      rw [List.getElem?_append_right (by rw [h.len]; omega), h.len, ← hw]
      congr 1; omega
theorem RowVals.ext {S' : Sta} (hE : Ext S S') (h : RowVals S a sz u) : RowVals S' a sz u :=
  ⟨h.len, h.row, fun j c r x hj hc => let ⟨w, hw, hr⟩ := h.cell j c r x hj hc; ⟨w, hw, hr.ext hE⟩⟩
theorem RowVals.one (h : RowVals S a sz u) : ∀ v ∈ u, v.oneCell' = true := by
  intro v hv
  obtain ⟨q, hq⟩ := List.getElem?_of_mem hv
  have hlt := (List.getElem?_eq_some_iff.1 hq).1
  rw [h.len] at hlt
  have hsz : 0 < sz := by
    rcases Nat.eq_zero_or_pos sz with e | e
    · rw [e, Nat.mul_zero] at hlt; omega
    · exact e
  have hj : q / sz < a.length := Nat.div_lt_of_lt_mul (by rw [Nat.mul_comm]; exact hlt)
  obtain ⟨r, hr⟩ : ∃ r, a[q / sz]? = some r := ⟨_, List.getElem?_eq_getElem hj⟩
  have hc : q % sz < r.length := by rw [h.row _ r hr]; exact Nat.mod_lt _ hsz
  obtain ⟨x, hx⟩ : ∃ x, r[q % sz]? = some x := ⟨_, List.getElem?_eq_getElem hc⟩
  obtain ⟨w, hw, hrep⟩ := h.cell _ _ r x hr hx
  rw [Nat.mul_comm, Nat.div_add_mod, hq] at hw
  cases hw
  exact hrep.oneCell
end rows
theorem BlkAt.vals {S : Sta} {w : World} {B b : Nat} {k : Blk} {g rc : Nat} {cur : Array Value} (h : BlkAt S w B b k g rc cur) : RowVals S k.els k.sz (cur.toList.take (k.els.length * k.sz)) := by
  refine ⟨?_, h.row, fun j c r x hj hc => ?_⟩
  · rw [List.length_take, Array.length_toList, h.size, Nat.min_eq_left (Nat.mul_le_mul_right _ h.le)]
  · obtain ⟨u, hu, hr⟩ := h.cell j c r x hj hc
    have hcs : c < k.sz := by rw [← h.row j r hj]; exact (List.getElem?_eq_some_iff.1 hc).1
    exact ⟨u, by rw [List.getElem?_take, if_pos (seg_lt (List.getElem?_eq_some_iff.1 hj).1 hcs), Array.getElem?_toList]; exact hu, hr⟩

/-- a block's rows anew, where they lie now -/
theorem ins_post {S : Sta} {w w' : World} {B : Nat} (hW : WRel S w B) {b : Nat} {k : Blk} {g rc : Nat} {cur : Array Value} (d1 : S.H[b]? = some k) (d2 : k.live = true) (hB : BlkAt S w B b k g rc cur) (els' : List (List AV)) (vs' : List Value) (hrv : RowVals S els' k.sz vs')
    (g' rc' : Nat) (cur' : Array Value) (rest : List Value) (hcur : cur'.toList = vs' ++ rest) (hsz : cur'.size = rc' * k.sz) (hle : els'.length ≤ rc') (hmax : rc' ≤ maxLen) (hg' : g' = g ∨ w.heap.size ≤ g') (hb' : B ≤ g')
    (hw : w'.heap[g']? = some (.cells cur' k.ty (0, 0))) (hh : ∀ x, x < w.heap.size → x ≠ g → w'.heap[x]? = w.heap[x]?) (hBel : Bel B w w') :
    ∃ S' : Sta, S'.H = S.H.set b { k with ver := k.ver + 1, els := els' } ∧ RepV S' (.ref b (k.ver + 1) k.sz 0 els'.length) (.slice (some ⟨g', 0, none⟩) els'.length rc') ∧ WRel S' w' B ∧ Ext S S' ∧ Bel B w w' := by
  obtain ⟨S', e1, e2, e3, e4, e5⟩ := hW.write (w' := w') d1 d2 hB (k.ver + 1) els' (Nat.le_succ _) g' rc' (cur' := cur') (fun h => absurd h (by omega)) hsz hle hmax hg' hb' hw hBel.size hh hrv.row
    (fun S' hE j c r x hj hc => by
      obtain ⟨u, hu, hr⟩ := hrv.cell j c r x hj hc
      refine ⟨u, ?_, hr.ext hE⟩
      rw [← Array.getElem?_toList, hcur, List.getElem?_append_left (List.getElem?_eq_some_iff.1 hu).1]
      exact hu)
  have hblt : b < S.H.length := (List.getElem?_eq_some_iff.1 d1).1
  have hbmu : b < S.mu.length := by rw [hW.len]; exact hblt
  refine ⟨S', e1, .one (.s (.ref _ _ _ _ _ _ _ { k with ver := k.ver + 1, els := els' } ?_ (Nat.le_refl _) hle rfl fun _ _ _ => ⟨by simp, fun _ => ⟨g', rc', ?_, by simp, by omega⟩⟩)), e5, e4, hBel⟩
  · rw [e1]; simp [List.getElem?_set, hblt]
  · rw [e3]; simp [List.getElem?_set, hbmu]

section run
variable {P : Program}
theorem lenOf_slice (W : World) (a : Option Addr) (len cap : Nat) : (Builtin.lenOf (.slice a len cap)).run P W = .ok len W := by simp [Builtin.lenOf]
theorem run_copy_at {t t' e : TypeId} (ty : TypeId) (hut : P.underlying t = some (.slice e)) {sz : Nat} (hs : sizeT P e = some sz) (W : World) (g o dl dc : Nat) (u : Value) (sl m : Nat) (hm : Nat.min sl dl = m) (news : List Value)
    (hl : (Builtin.lenOf u).run P W = .ok sl W) (hf : (Builtin.firstCells sz m u).run P W = .ok news.toArray W) (cur : Array Value) (k : TypeId) (hh : W.heap[g]? = some (.cells cur k (0, 0))) (hfit : o + news.length ≤ cur.size) (h1 : ∀ v ∈ news, v.oneCell' = true) :
    (Builtin.copy_ #[t, t'] ty #[.slice (some ⟨g, o, none⟩) dl dc, u]).run P W = .ok (goInt m) (W.setRow g (cur.toList.take o ++ news ++ cur.toList.drop (o + news.length)).toArray) := by
  have hst := run_storeCells_at P g o k news 0 cur W hh (by simpa using hfit) h1
  simp only [Nat.add_zero] at hst
  have hld := lenOf_slice (P := P) W (some ⟨g, o, none⟩) dl dc
  simp [Builtin.copy_, run_underlying hut, hld, hl, hm, run_sizeT W hs, hf, hst]
theorem run_first_at (W : World) (g o len cap m sz : Nat) (cur : Array Value) (k : TypeId) (hh : W.heap[g]? = some (.cells cur k (0, 0))) (hfit : o + m * sz ≤ cur.size) :
    (Builtin.firstCells sz m (.slice (some ⟨g, o, none⟩) len cap)).run P W = .ok ((cur.toList.drop o).take (m * sz)).toArray W := by
  refine run_firstCells_some W sz m _ len cap _ (by simp; omega) fun j v hj => ?_
  rw [List.getElem?_take] at hj
  split at hj
  · rw [List.getElem?_drop, Array.getElem?_toList] at hj
    rw [cell_at hh]; exact hj
  · cases hj
end run
end Go.Proofs.YtondenmkhfignaaDoor.Ev
