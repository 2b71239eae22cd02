/- plain: the laws' arguments, opened. -/
import Derived.Test.YtcbmakanokmdjaaRt
import Derived.Test.YtcbmakanokmdjaaRu
import Derived.Test.YtcbmakanokmdjaaEvR
set_option linter.unusedSimpArgs false
set_option linter.unusedVariables false
namespace Go.Proofs.Ytcbmakanokmdjaa.Code
open Go.Proofs.Ytcbmakanokmdjaa.Ev Go.RowKit

theorem typed {α : Type} {P : List AV → Prop} {enc : α → List AV} {Q : α → Prop} (h : ∀ r, P r → ∃ x, r = enc x ∧ Q x) : ∀ l : List (List AV), (∀ r ∈ l, P r) → ∃ xs : List α, l = xs.map enc ∧ ∀ x ∈ xs, Q x
  | [], _ => ⟨[], rfl, by simp⟩
  | r :: l, hl => by
    obtain ⟨x, rfl, hx⟩ := h r (hl r (List.mem_cons_self ..))
    obtain ⟨xs, rfl, hxs⟩ := typed h l fun r hr => hl r (List.mem_cons_of_mem _ hr)
    exact ⟨x :: xs, rfl, fun y hy => by (rcases List.mem_cons.1 hy with rfl | hy; exact hx; exact hxs y hy)⟩
theorem reach_lt {n : Nat} (h : n ≤ reachBytes) : n < 9223372036854775807 := by unfold reachBytes at h; omega
theorem open_int {r : List AV} (h : HasL [.int .i64] r) : ∃ n : Int, r = rI n ∧ True := by
  simp only [HasL, Has] at h
  obtain ⟨x, xs, rfl, ⟨n, rfl, _⟩, rfl⟩ := h
  exact ⟨n, rfl, trivial⟩
theorem open_Fd {r : List AV} (h : HasL [.str, .int .i64, .int .i64] r) : ∃ x : Fd, r = rFd x ∧ x.Ok := by
  simp only [HasL.eq_2, HasL.eq_1, Has] at h
  obtain ⟨x, xs, rfl, ⟨s, rfl, hs⟩, y, ys, rfl, ⟨f, rfl, _⟩, z, zs, rfl, ⟨o, rfl, _⟩, rfl⟩ := h
  exact ⟨⟨s, f, o⟩, rfl, ⟨reach_lt hs⟩⟩
theorem open_Se {r : List AV} (h : HasL [.str, .int .i64, .int .i64, .str] r) : ∃ x : Se, r = rSe x ∧ x.Ok := by
  simp only [HasL.eq_2, HasL.eq_1, Has] at h
  obtain ⟨x, xs, rfl, ⟨s, rfl, hs⟩, y, ys, rfl, ⟨f, rfl, _⟩, z, zs, rfl, ⟨o, rfl, _⟩, w, ws, rfl, ⟨p, rfl, hp⟩, rfl⟩ := h
  exact ⟨⟨s, f, o, p⟩, rfl, ⟨reach_lt hs, reach_lt hp⟩⟩
theorem open_Item {r : List AV} (h : HasL [.int .i64, .str] r) : ∃ x : Item, r = rItem x ∧ True := by
  simp only [HasL.eq_2, HasL.eq_1, Has] at h
  obtain ⟨x, xs, rfl, ⟨s, rfl, _⟩, y, ys, rfl, ⟨f, rfl, _⟩, rfl⟩ := h
  exact ⟨⟨s, f⟩, rfl, trivial⟩
theorem open_Ty {r : List AV} (h : HasL [.str, .int .i64, .int .i64, .int .i64, .sl [.str, .int .i64, .int .i64], .int .i64, .bool, .bool] r) : ∃ x : Ty, r = rTy x ∧ x.Ok := by
  simp only [HasL.eq_2, HasL.eq_1, Has] at h
  obtain ⟨_, _, rfl, ⟨a, rfl, ha⟩, _, _, rfl, ⟨b, rfl, _⟩, _, _, rfl, ⟨c, rfl, _⟩, _, _, rfl, ⟨d, rfl, _⟩, _, _, rfl, ⟨l, rfl, hl, hr⟩, _, _, rfl, ⟨e, rfl, _⟩, _, _, rfl, ⟨f, rfl⟩, _, _, rfl, ⟨g, rfl⟩, rfl⟩ := h
  obtain ⟨fs, rfl, hq⟩ := typed (P := HasL [.str, .int .i64, .int .i64]) (fun r h => open_Fd h) l (fun r h => by simpa only [HasL.eq_2, HasL.eq_1, Has] using hr r h)
  exact ⟨⟨a, b, c, d, fs, e, f, g⟩, rfl, ⟨reach_lt ha, reach_lt (by simpa using hl), hq⟩⟩
theorem open_Base {a : AV} (h : ArgTy true [.str, .int .i64, .sl [.str, .int .i64, .int .i64, .int .i64, .sl [.str, .int .i64, .int .i64], .int .i64, .bool, .bool], .sl [.str, .int .i64, .int .i64, .str]] a) : ∃ b : Base, a = eBase b ∧ b.Ok := by
  obtain ⟨bs, rfl, h⟩ := h
  simp only [HasL.eq_2, HasL.eq_1, Has] at h
  obtain ⟨_, _, rfl, ⟨n, rfl, hn⟩, _, _, rfl, ⟨k, rfl, _⟩, _, _, rfl, ⟨l, rfl, hl, hr⟩, _, _, rfl, ⟨l', rfl, hl', hr'⟩, rfl⟩ := h
  obtain ⟨ts, rfl, hq⟩ := typed (P := HasL [.str, .int .i64, .int .i64, .int .i64, .sl [.str, .int .i64, .int .i64], .int .i64, .bool, .bool]) (fun r h => open_Ty h) l (fun r h => by simpa only [HasL.eq_2, HasL.eq_1, Has] using hr r h)
  obtain ⟨xs, rfl, hq'⟩ := typed (P := HasL [.str, .int .i64, .int .i64, .str]) (fun r h => open_Se h) l' (fun r h => by simpa only [HasL.eq_2, HasL.eq_1, Has] using hr' r h)
  exact ⟨⟨n, k, ts, xs⟩, rfl, ⟨reach_lt hn, reach_lt (by simpa using hl), hq, reach_lt (by simpa using hl'), hq'⟩⟩
theorem open_Items {a : AV} (h : ArgTy false [.sl [.int .i64, .str]] a) : ∃ l : List Item, a = eItems l ∧ l.length < 9223372036854775807 := by
  have h : HasL [.sl [.int .i64, .str]] [a] := h
  simp only [HasL.eq_2, HasL.eq_1, Has] at h
  obtain ⟨x, xs, he, ⟨l, rfl, hl, hr⟩, rfl⟩ := h
  cases he
  obtain ⟨us, rfl, _⟩ := typed (P := HasL [.int .i64, .str]) (fun r h => open_Item h) l (fun r h => by simpa only [HasL.eq_2, HasL.eq_1, Has] using hr r h)
  exact ⟨us, rfl, reach_lt (by simpa using hl)⟩
theorem open_Ints {a : AV} (h : ArgTy false [.sl [.int .i64]] a) : ∃ l : List Int, a = eIs l ∧ l.length < 9223372036854775807 := by
  have h : HasL [.sl [.int .i64]] [a] := h
  simp only [HasL.eq_2, HasL.eq_1, Has] at h
  obtain ⟨x, xs, he, ⟨l, rfl, hl, hr⟩, rfl⟩ := h
  cases he
  obtain ⟨us, rfl, _⟩ := typed (P := HasL [.int .i64]) (fun r h => open_int h) l (fun r h => by simpa only [HasL.eq_2, HasL.eq_1, Has] using hr r h)
  exact ⟨us, rfl, reach_lt (by simpa using hl)⟩
end Go.Proofs.Ytcbmakanokmdjaa.Code
