/- logic: isLink, a field that fits not, walked. -/
import Derived.Test.YtbchmbddcdionaaProg
import Derived.WalkKit
import Derived.BigRegion
import Derived.Below
set_option linter.unusedSimpArgs false
set_option linter.unusedVariables false
namespace Go.Proofs.Ytbchmbddcdionaa.Code
open Go Go.Proofs Go.RowKit
set_option maxHeartbeats 40000000
theorem v45_not_l (w : World) (na nb an bn : ByteArray) (ka kb a1 a2 a3 a5 b1 b2 b3 : Int) (a6 a7 b6 b7 : Bool) (sa sb : Value) (ga oa n ca gb ob m cb p pc q qc c : Nat)
    (gf uf gr ur fl key : Nat) (fn rn : ByteArray) (fa fb ra rb : Int)
    (s : Int) (hc : ¬ (c : Int) < 1) (hn : (c : Int) < (n : Int)) (hm : (0 : Int) < (m : Int))
    (ha0 : w.cell? ⟨ga, oa + c * 8, none⟩ = some (.string an)) (ha1 : w.cell? ⟨ga, oa + c * 8 + 1, none⟩ = some (.int .i64 a1)) (ha2 : w.cell? ⟨ga, oa + c * 8 + 2, none⟩ = some (.int .i64 a2)) (ha3 : w.cell? ⟨ga, oa + c * 8 + 3, none⟩ = some (.int .i64 a3)) (ha4 : w.cell? ⟨ga, oa + c * 8 + 4, none⟩ = some (.slice (some ⟨gf, uf, none⟩) p pc)) (ha5 : w.cell? ⟨ga, oa + c * 8 + 5, none⟩ = some (.int .i64 a5)) (ha6 : w.cell? ⟨ga, oa + c * 8 + 6, none⟩ = some (.bool a6)) (ha7 : w.cell? ⟨ga, oa + c * 8 + 7, none⟩ = some (.bool a7))
    (hb0 : w.cell? ⟨gb, ob, none⟩ = some (.string bn)) (hb1 : w.cell? ⟨gb, ob + 1, none⟩ = some (.int .i64 b1)) (hb2 : w.cell? ⟨gb, ob + 2, none⟩ = some (.int .i64 b2)) (hb3 : w.cell? ⟨gb, ob + 3, none⟩ = some (.int .i64 b3)) (hb4 : w.cell? ⟨gb, ob + 4, none⟩ = some (.slice (some ⟨gr, ur, none⟩) q qc)) (hb5 : w.cell? ⟨gb, ob + 5, none⟩ = some (.int .i64 key)) (hb6 : w.cell? ⟨gb, ob + 6, none⟩ = some (.bool b6)) (hb7 : w.cell? ⟨gb, ob + 7, none⟩ = some (.bool b7))
    (hf0 : w.cell? ⟨gf, uf + fl * 3, none⟩ = some (.string fn)) (hf1 : w.cell? ⟨gf, uf + fl * 3 + 1, none⟩ = some (.int .i64 fa)) (hf2 : w.cell? ⟨gf, uf + fl * 3 + 2, none⟩ = some (.int .i64 fb))
    (hr0 : w.cell? ⟨gr, ur + key * 3, none⟩ = some (.string rn)) (hr1 : w.cell? ⟨gr, ur + key * 3 + 1, none⟩ = some (.int .i64 ra)) (hr2 : w.cell? ⟨gr, ur + key * 3 + 2, none⟩ = some (.int .i64 rb))
    (hfl : (fl : Int) < (p : Int)) (hky : (key : Int) < (q : Int))
    (hga : ga < w.heap.size) (hgb : gb < w.heap.size) (hgf : gf < w.heap.size) (hgr : gr < w.heap.size) (hs : IntKind.i64.wrap (fa + fb) = s) (hs2 : wrap64 (fa + fb) = s) (h2 : ¬ s ≤ a2) (h3 : a2 < s) (h4 : decide (s ≤ a2) = false) :
    Calls Try.prog 45 #[.agg #[.string na, .int .i64 ka, .slice (some ⟨ga, oa, none⟩) n ca, sa], .agg #[.string nb, .int .i64 kb, .slice (some ⟨gb, ob, none⟩) m cb, sb], .agg #[.int .i64 c, .int .i64 fl, .string ⟨#[76]⟩]] w fun e w' => e = .returned (.bool false) ∧ Below w.heap.size w w' := by
  have ga1 : ga < w.heap.size + 1 := by omega
  have ga2 : ga < w.heap.size + 1 + 1 := by omega
  have ga3 : ga < w.heap.size + 1 + 1 + 1 := by omega
  have ga4 : ga < w.heap.size + 1 + 1 + 1 + 1 := by omega
  have ga5 : ga < w.heap.size + 1 + 1 + 1 + 1 + 1 := by omega
  have ga6 : ga < w.heap.size + 1 + 1 + 1 + 1 + 1 + 1 := by omega
  have gb1 : gb < w.heap.size + 1 := by omega
  have gb2 : gb < w.heap.size + 1 + 1 := by omega
  have gb3 : gb < w.heap.size + 1 + 1 + 1 := by omega
  have gb4 : gb < w.heap.size + 1 + 1 + 1 + 1 := by omega
  have gb5 : gb < w.heap.size + 1 + 1 + 1 + 1 + 1 := by omega
  have gb6 : gb < w.heap.size + 1 + 1 + 1 + 1 + 1 + 1 := by omega
  have gf1 : gf < w.heap.size + 1 := by omega
  have gf2 : gf < w.heap.size + 1 + 1 := by omega
  have gf3 : gf < w.heap.size + 1 + 1 + 1 := by omega
  have gf4 : gf < w.heap.size + 1 + 1 + 1 + 1 := by omega
  have gf5 : gf < w.heap.size + 1 + 1 + 1 + 1 + 1 := by omega
  have gf6 : gf < w.heap.size + 1 + 1 + 1 + 1 + 1 + 1 := by omega
  have gr1 : gr < w.heap.size + 1 := by omega
  have gr2 : gr < w.heap.size + 1 + 1 := by omega
  have gr3 : gr < w.heap.size + 1 + 1 + 1 := by omega
  have gr4 : gr < w.heap.size + 1 + 1 + 1 + 1 := by omega
  have gr5 : gr < w.heap.size + 1 + 1 + 1 + 1 + 1 := by omega
  have gr6 : gr < w.heap.size + 1 + 1 + 1 + 1 + 1 + 1 := by omega
  go_enter Try.func45, Try.ntmps45
  go_wp2
  go_region
  all_goals go_wp2
  all_goals go_region
  all_goals go_wp2
  all_goals (refine bodyPost_ret (v := .bool false) (by simp [results, Try.results45, go_sem]) rfl ⟨rfl, ?_⟩; repeat (first | exact Below.refl _ _ | refine Below.drew ?_ | refine Below.alloc ?_ (by simp <;> omega) _))
end Go.Proofs.Ytbchmbddcdionaa.Code
