/- logic: valid, no field, walked. -/
import Derived.Test.YtbchmbddcdionaaProg
import Derived.WalkKit
import Derived.BigRegion
import Derived.Below
set_option linter.unusedSimpArgs false
set_option linter.unusedVariables false
namespace Go.Proofs.Ytbchmbddcdionaa.Code
open Go Go.Proofs Go.RowKit
set_option maxHeartbeats 40000000
theorem v43_neg_v (w : World) (na nb an bn : ByteArray) (ka kb a1 a2 a3 a5 b1 b2 b3 : Int) (a6 a7 b6 b7 : Bool) (sa sb : Value) (ga oa n ca gb ob m cb p pc q qc c : Nat)
    (xf xr : Option Addr) (key : Int)
    (fl : Int) (hc : ¬ (c : Int) < 1) (hn : (c : Int) < (n : Int)) (hm : (0 : Int) < (m : Int))
    (ha0 : w.cell? ⟨ga, oa + c * 8, none⟩ = some (.string an)) (ha1 : w.cell? ⟨ga, oa + c * 8 + 1, none⟩ = some (.int .i64 a1)) (ha2 : w.cell? ⟨ga, oa + c * 8 + 2, none⟩ = some (.int .i64 a2)) (ha3 : w.cell? ⟨ga, oa + c * 8 + 3, none⟩ = some (.int .i64 a3)) (ha4 : w.cell? ⟨ga, oa + c * 8 + 4, none⟩ = some (.slice xf p pc)) (ha5 : w.cell? ⟨ga, oa + c * 8 + 5, none⟩ = some (.int .i64 a5)) (ha6 : w.cell? ⟨ga, oa + c * 8 + 6, none⟩ = some (.bool a6)) (ha7 : w.cell? ⟨ga, oa + c * 8 + 7, none⟩ = some (.bool a7))
    (hb0 : w.cell? ⟨gb, ob, none⟩ = some (.string bn)) (hb1 : w.cell? ⟨gb, ob + 1, none⟩ = some (.int .i64 b1)) (hb2 : w.cell? ⟨gb, ob + 2, none⟩ = some (.int .i64 b2)) (hb3 : w.cell? ⟨gb, ob + 3, none⟩ = some (.int .i64 b3)) (hb4 : w.cell? ⟨gb, ob + 4, none⟩ = some (.slice xr q qc)) (hb5 : w.cell? ⟨gb, ob + 5, none⟩ = some (.int .i64 key)) (hb6 : w.cell? ⟨gb, ob + 6, none⟩ = some (.bool b6)) (hb7 : w.cell? ⟨gb, ob + 7, none⟩ = some (.bool b7))
    (hga : ga < w.heap.size) (hgb : gb < w.heap.size) (hfl : fl < 0) :
    Calls Try.prog 43 #[.agg #[.string na, .int .i64 ka, .slice (some ⟨ga, oa, none⟩) n ca, sa], .agg #[.string nb, .int .i64 kb, .slice (some ⟨gb, ob, none⟩) m cb, sb], .agg #[.int .i64 c, .int .i64 fl, .string ⟨#[86]⟩]] w fun e w' => e = .returned (.bool false) ∧ Below w.heap.size w w' := by
  have ga1 : ga < w.heap.size + 1 := by omega
  have ga2 : ga < w.heap.size + 1 + 1 := by omega
  have ga3 : ga < w.heap.size + 1 + 1 + 1 := by omega
  have ga4 : ga < w.heap.size + 1 + 1 + 1 + 1 := by omega
  have ga5 : ga < w.heap.size + 1 + 1 + 1 + 1 + 1 := by omega
  have ga6 : ga < w.heap.size + 1 + 1 + 1 + 1 + 1 + 1 := by omega
  have gb1 : gb < w.heap.size + 1 := by omega
  have gb2 : gb < w.heap.size + 1 + 1 := by omega
  have gb3 : gb < w.heap.size + 1 + 1 + 1 := by omega
  have gb4 : gb < w.heap.size + 1 + 1 + 1 + 1 := by omega
  have gb5 : gb < w.heap.size + 1 + 1 + 1 + 1 + 1 := by omega
  have gb6 : gb < w.heap.size + 1 + 1 + 1 + 1 + 1 + 1 := by omega
  go_enter Try.func43, Try.ntmps43
  go_wp2
  go_region
  all_goals go_wp2
  all_goals (refine bodyPost_ret (v := .bool false) (by simp [results, Try.results43, go_sem]) rfl ⟨rfl, ?_⟩; repeat (first | exact Below.refl _ _ | refine Below.drew ?_ | refine Below.alloc ?_ (by simp <;> omega) _))
theorem v43_far_v (w : World) (na nb an bn : ByteArray) (ka kb a1 a2 a3 a5 b1 b2 b3 : Int) (a6 a7 b6 b7 : Bool) (sa sb : Value) (ga oa n ca gb ob m cb p pc q qc c : Nat)
    (xf xr : Option Addr) (key : Int)
    (fl : Nat) (hc : ¬ (c : Int) < 1) (hn : (c : Int) < (n : Int)) (hm : (0 : Int) < (m : Int))
    (ha0 : w.cell? ⟨ga, oa + c * 8, none⟩ = some (.string an)) (ha1 : w.cell? ⟨ga, oa + c * 8 + 1, none⟩ = some (.int .i64 a1)) (ha2 : w.cell? ⟨ga, oa + c * 8 + 2, none⟩ = some (.int .i64 a2)) (ha3 : w.cell? ⟨ga, oa + c * 8 + 3, none⟩ = some (.int .i64 a3)) (ha4 : w.cell? ⟨ga, oa + c * 8 + 4, none⟩ = some (.slice xf p pc)) (ha5 : w.cell? ⟨ga, oa + c * 8 + 5, none⟩ = some (.int .i64 a5)) (ha6 : w.cell? ⟨ga, oa + c * 8 + 6, none⟩ = some (.bool a6)) (ha7 : w.cell? ⟨ga, oa + c * 8 + 7, none⟩ = some (.bool a7))
    (hb0 : w.cell? ⟨gb, ob, none⟩ = some (.string bn)) (hb1 : w.cell? ⟨gb, ob + 1, none⟩ = some (.int .i64 b1)) (hb2 : w.cell? ⟨gb, ob + 2, none⟩ = some (.int .i64 b2)) (hb3 : w.cell? ⟨gb, ob + 3, none⟩ = some (.int .i64 b3)) (hb4 : w.cell? ⟨gb, ob + 4, none⟩ = some (.slice xr q qc)) (hb5 : w.cell? ⟨gb, ob + 5, none⟩ = some (.int .i64 key)) (hb6 : w.cell? ⟨gb, ob + 6, none⟩ = some (.bool b6)) (hb7 : w.cell? ⟨gb, ob + 7, none⟩ = some (.bool b7))
    (hga : ga < w.heap.size) (hgb : gb < w.heap.size) (hfl : ¬ (fl : Int) < (p : Int)) :
    Calls Try.prog 43 #[.agg #[.string na, .int .i64 ka, .slice (some ⟨ga, oa, none⟩) n ca, sa], .agg #[.string nb, .int .i64 kb, .slice (some ⟨gb, ob, none⟩) m cb, sb], .agg #[.int .i64 c, .int .i64 fl, .string ⟨#[86]⟩]] w fun e w' => e = .returned (.bool false) ∧ Below w.heap.size w w' := by
  have ga1 : ga < w.heap.size + 1 := by omega
  have ga2 : ga < w.heap.size + 1 + 1 := by omega
  have ga3 : ga < w.heap.size + 1 + 1 + 1 := by omega
  have ga4 : ga < w.heap.size + 1 + 1 + 1 + 1 := by omega
  have ga5 : ga < w.heap.size + 1 + 1 + 1 + 1 + 1 := by omega
  have ga6 : ga < w.heap.size + 1 + 1 + 1 + 1 + 1 + 1 := by omega
  have gb1 : gb < w.heap.size + 1 := by omega
  have gb2 : gb < w.heap.size + 1 + 1 := by omega
  have gb3 : gb < w.heap.size + 1 + 1 + 1 := by omega
  have gb4 : gb < w.heap.size + 1 + 1 + 1 + 1 := by omega
  have gb5 : gb < w.heap.size + 1 + 1 + 1 + 1 + 1 := by omega
  have gb6 : gb < w.heap.size + 1 + 1 + 1 + 1 + 1 + 1 := by omega
  go_enter Try.func43, Try.ntmps43
  go_wp2
  go_region
  all_goals go_wp2
  all_goals (refine bodyPost_ret (v := .bool false) (by simp [results, Try.results43, go_sem]) rfl ⟨rfl, ?_⟩; repeat (first | exact Below.refl _ _ | refine Below.drew ?_ | refine Below.alloc ?_ (by simp <;> omega) _))
end Go.Proofs.Ytbchmbddcdionaa.Code
