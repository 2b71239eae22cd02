/- Lists of rows, as values; blocks that stay; what lists are opened to (generic). -/
import Derived.Test.YtondenmkhfignaaEvZ
import Derived.Test.YtondenmkhfignaaEvR
set_option linter.unusedSimpArgs false
set_option linter.unusedVariables false
namespace Go.Proofs.Ytondenmkhfignaa.Ev
open Go.RowKit

theorem sLst {α : Type} (row : α → List AV) {sz : Nat} (hr : ∀ x, (row x).length = sz) (H : Heap) (l : List α) : SlAt H sz (.lst (l.map row)) (l.map row) := .lst fun r h => by
  obtain ⟨n, _, rfl⟩ := List.mem_map.1 h; exact hr n
theorem headOk_map {α : Type} (row : α → List AV) {sz : Nat} (hr : ∀ x, (row x).length = sz) (l : List α) : headOk sz (l.map row) = true := by
  cases l with
  | nil => rfl
  | cons x l => simp [headOk, hr]
theorem slc_take {α : Type} (row : α → List AV) {sz : Nat} (hr : ∀ x, (row x).length = sz) (H : Heap) (l : List α) {i : Nat} (hi : i ≤ l.length) : evSlc H sz (.lst (l.map row)) none (some i) none = some (.lst ((l.take i).map row)) := by
  simp [evSlc, headOk_map row hr, hi]
theorem slc_drop {α : Type} (row : α → List AV) {sz : Nat} (hr : ∀ x, (row x).length = sz) (H : Heap) (l : List α) {i : Nat} (hi : i ≤ l.length) : evSlc H sz (.lst (l.map row)) (some i) none none = some (.lst ((l.drop i).map row)) := by
  simp [evSlc, headOk_map row hr, hi, List.take_of_length_le]
theorem lFp {α : Type} (row : α → List AV) {sz : Nat} (hr : ∀ x, (row x).length = sz) {l : List α} {i : Nat} {x : α} (hx : l[i]? = some x) : iaddrK sz (some (.lst (l.map row))) (some (.int .i64 (i : Int))) = some (.fptr (row x)) := by
  rw [iaddr_lst, asNat_cast, atK_some, List.getElem?_map, hx, Option.map_some, rowK_some, if_pos (hr x)]
/-- a block that stays where it is -/
def Sits (H : Heap) (n : Nat) (k : Blk) : Prop := ∀ X, (H ++ X)[n]? = some k
theorem Sits.mk {H : Heap} {n : Nat} {k : Blk} (h : H[n]? = some k) : Sits H n k := fun X => by
  rw [List.getElem?_append_left (List.getElem?_eq_some_iff.1 h).1]; exact h
theorem Sits.at {H : Heap} {n : Nat} {k : Blk} (h : Sits H n k) : H[n]? = some k := by simpa using h []
theorem idx_at (s : ByteArray) {i : Nat} {c : UInt8} (h : s.data.toList[i]? = some c) : idxK (some (.str s)) (some (.int .i64 (i : Int))) = some (.int .u8 (c.toNat : Int)) := by
  have hn : asNat (.int .i64 (i : Int)) = some i := by simp [asNat]
  simp only [idxK, hn, byteK, h]
theorem size_eq (s : ByteArray) : s.data.toList.length = s.size := Array.length_toList
theorem typed {α : Type} {P : List AV → Prop} {enc : α → List AV} {Q : α → Prop} (h : ∀ r, P r → ∃ x, r = enc x ∧ Q x) : ∀ l : List (List AV), (∀ r ∈ l, P r) → ∃ xs : List α, l = xs.map enc ∧ ∀ x ∈ xs, Q x
  | [], _ => ⟨[], rfl, by simp⟩
  | r :: l, hl => by
    obtain ⟨x, rfl, hx⟩ := h r (hl r (List.mem_cons_self ..))
    obtain ⟨xs, rfl, hxs⟩ := typed h l fun r hr => hl r (List.mem_cons_of_mem _ hr)
    exact ⟨x :: xs, rfl, fun y hy => by (rcases List.mem_cons.1 hy with rfl | hy; exact hx; exact hxs y hy)⟩
theorem reach_lt {n : Nat} (h : n ≤ reachBytes) : n < 9223372036854775807 := by unfold reachBytes at h; omega
theorem out_src {n sz ty : Nat} {X : Heap} {rv : AV} {rows : List (List AV)} (h : Out n sz ty X rv rows) (H0 : Heap) (hn : n = H0.length) : srcRows (H0 ++ X) rv = some rows := by
  subst hn
  rcases h with ⟨rfl, rfl | rfl⟩ | ⟨h1, j, v, rfl, h3⟩
  · rfl
  · rfl
  · cases rows with
    | nil => exact absurd rfl h1
    | cons r rs => simp [srcRows, rowsOf, curBlk, at_app, h3]
/-- a function's result is what has grown: frozen -/
theorem frz_out {n sz ty : Nat} {X : Heap} {rv : AV} {rows : List (List AV)} (h : Out n sz ty X rv rows) (H K : Heap) (hn : n = (H ++ K).length) (hr : Plain rows) :
    calK true H (some (rv, H ++ (K ++ X))) = some (.lst rows, H) := by
  obtain ⟨ids, h1, h2, h3⟩ := fz_out' h (H ++ K) hn hr
  rw [← List.append_assoc]
  exact frz_one h1 h3 (by simp) fun b hb => by
    have := h2 b hb
    rw [hn, List.length_append] at this; omega
theorem slcs_at (d : ByteArray) {a c : Int} (h1 : 0 ≤ a) (h2 : a ≤ c) (h3 : c ≤ d.size) : evSlcs d (some a.toNat) (some c.toNat) = some (.str (d.extract a.toNat c.toNat)) := by
  unfold evSlcs
  simp only [Option.getD_some]
  rw [if_pos ⟨by omega, by omega⟩]
theorem asNat_int {a : Int} (h : 0 ≤ a) (k : IntKind) : asNat (.int k a) = some a.toNat := by
  simp only [asNat, h, if_true]
def slcsK (x : Option AV) (lo hi : Option (Option Nat)) : Option AV :=
  match x, lo, hi with
  | some (.str s), some l, some h => evSlcs s l h
  | _, _, _ => none
theorem p_slcs {call : Nat → List AV → Heap → Option (AV × Heap)} (T : Env) (H : Heap) (x : COpd) (lo hi : Option COpd) : evOp call T H (.slcs x lo hi) = pureK H (slcsK (evOpd T x) (evNat T lo) (evNat T hi)) := evOp_pureK rfl
theorem slcsK_some (s : ByteArray) (l h : Option Nat) : slcsK (some (.str s)) (some l) (some h) = evSlcs s l h := rfl
/-- what a call leaves behind falls away -/
theorem gc_fall {H Z : Heap} {r : AV} (hn : noRef r = true) (ht : Z.take H.length = H) : calK false H (some (r, Z)) = some (r, H) := by
  rw [calK_f]
  unfold gc
  rw [if_pos ⟨hn, by rw [ht]; exact heq_refl H⟩]
/-- lists of texts -/
def rS (s : ByteArray) : List AV := [.str s]
def eStrs (l : List ByteArray) : AV := .lst (l.map rS)
theorem aS {l : List ByteArray} {i : Nat} {x : ByteArray} (hx : l[i]? = some x) : iaddrK 1 (some (eStrs l)) (some (.int .i64 (i : Int))) = some (.fptr (rS x)) := lFp rS (fun _ => rfl) hx
theorem sStrs (H : Heap) (l : List ByteArray) : SlAt H 1 (eStrs l) (l.map rS) := sLst rS (fun _ => rfl) H l
theorem lS (s : ByteArray) : Loads false 1 (rS s) (.str s) := ⟨rfl, rfl, rfl⟩
theorem plain_S (q : List ByteArray) : Plain (q.map rS) := by
  intro r hr a ha
  obtain ⟨n, _, rfl⟩ := List.mem_map.1 hr
  obtain rfl : a = .str n := by simpa [rS] using ha
  exact ⟨rfl, fun _ _ => rfl⟩
end Go.Proofs.Ytondenmkhfignaa.Ev
