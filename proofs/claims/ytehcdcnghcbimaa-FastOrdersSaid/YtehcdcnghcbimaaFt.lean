/- The law FastSyncs: what the evaluator answers. -/
import Derived.Test.YtehcdcnghcbimaaFr
import Derived.Test.YtehcdcnghcbimaaFs
import Derived.Test.YtehcdcnghcbimaaEvR
set_option linter.unusedSimpArgs false
set_option linter.unusedVariables false
namespace Go.Proofs.Ytehcdcnghcbimaa.Code
open Go.Proofs.Ytehcdcnghcbimaa.Ev Go.RowKit

theorem typed {α : Type} {P : List AV → Prop} {enc : α → List AV} {Q : α → Prop} (h : ∀ r, P r → ∃ x, r = enc x ∧ Q x) : ∀ l : List (List AV), (∀ r ∈ l, P r) → ∃ xs : List α, l = xs.map enc ∧ ∀ x ∈ xs, Q x
  | [], _ => ⟨[], rfl, by simp⟩
  | r :: l, hl => by
    obtain ⟨x, rfl, hx⟩ := h r (hl r (List.mem_cons_self ..))
    obtain ⟨xs, rfl, hxs⟩ := typed h l fun r hr => hl r (List.mem_cons_of_mem _ hr)
    exact ⟨x :: xs, rfl, fun y hy => by (rcases List.mem_cons.1 hy with rfl | hy; exact hx; exact hxs y hy)⟩
theorem open_int {r : List AV} (h : HasL [.int .i64] r) : ∃ n : Int, r = [.int .i64 n] ∧ True := by
  simp only [HasL, Has] at h
  obtain ⟨x, xs, rfl, ⟨n, rfl, _⟩, rfl⟩ := h
  exact ⟨n, rfl, trivial⟩
theorem open_row {r : List AV} (h : HasL [.str, .sl [.int .i64]] r) : ∃ x : Row, r = rRow x ∧ x.2.length ≤ reachBytes := by
  simp only [HasL.eq_2, HasL.eq_1, Has] at h
  obtain ⟨x, xs, rfl, ⟨s, rfl, _⟩, y, ys, rfl, ⟨l, rfl, hl, hr⟩, rfl⟩ := h
  obtain ⟨ns, rfl, _⟩ := typed (fun r h => open_int h) l hr
  exact ⟨(s, ns), rfl, by simpa using hl⟩
theorem open_table {a : AV} (h : ArgTy true [.int .i64, .sl [.str, .sl [.int .i64]]] a) : ∃ (F : Int) (rows : List Row), a = .agg [.int .i64 F, .lst (rows.map rRow)] ∧ rows.length ≤ reachBytes ∧ ∀ r ∈ rows, r.2.length ≤ reachBytes := by
  obtain ⟨bs, rfl, h⟩ := h
  simp only [HasL.eq_2, HasL.eq_1, Has] at h
  obtain ⟨x, xs, rfl, ⟨F, rfl, _⟩, y, ys, rfl, ⟨l, rfl, hl, hr⟩, rfl⟩ := h
  obtain ⟨rows, rfl, hq⟩ := typed (P := HasL [.str, .sl [.int .i64]]) (fun r h => open_row h) l (fun r h => by simpa only [HasL.eq_2, HasL.eq_1, Has] using hr r h)
  exact ⟨F, rows, rfl, by simpa using hl, hq⟩
theorem open_fld {r : List AV} (h : HasL [.str, .int .i64, .str, .int .i64] r) : ∃ x : Fld, r = rFld x ∧ True := by
  simp only [HasL.eq_2, HasL.eq_1, Has] at h
  obtain ⟨x, xs, rfl, ⟨s, rfl, _⟩, y, ys, rfl, ⟨f, rfl, _⟩, z, zs, rfl, ⟨o, rfl, _⟩, w, ws, rfl, ⟨n, rfl, _⟩, rfl⟩ := h
  exact ⟨⟨s, f, o, n⟩, rfl, trivial⟩
theorem open_unit {a : AV} (h : ArgTy false [.sl [.str, .int .i64, .str, .int .i64]] a) : ∃ (l : List Fld), a = eUnit l ∧ l.length ≤ reachBytes := by
  have h : HasL [.sl [.str, .int .i64, .str, .int .i64]] [a] := h
  simp only [HasL.eq_2, HasL.eq_1, Has] at h
  obtain ⟨x, xs, he, ⟨l, rfl, hl, hr⟩, rfl⟩ := h
  cases he
  obtain ⟨us, rfl, _⟩ := typed (P := HasL [.str, .int .i64, .str, .int .i64]) (fun r h => open_fld h) l (fun r h => by simpa only [HasL.eq_2, HasL.eq_1, Has] using hr r h)
  exact ⟨us, rfl, by simpa using hl⟩
end Go.Proofs.Ytehcdcnghcbimaa.Code
