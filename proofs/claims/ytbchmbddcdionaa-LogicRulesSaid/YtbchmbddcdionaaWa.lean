/- logic: valid, early ends, walked. -/
import Derived.Test.YtbchmbddcdionaaProg
import Derived.WalkKit
import Derived.BigRegion
import Derived.Below
set_option linter.unusedSimpArgs false
set_option linter.unusedVariables false
namespace Go.Proofs.Ytbchmbddcdionaa.Code
open Go Go.Proofs Go.RowKit
set_option maxHeartbeats 40000000
theorem v43_low (w : World) (na nb : ByteArray) (ka kb fl : Int) (xa xb : Option Addr) (sa sb : Value) (n ca m cb : Nat) (c : Int) (r : ByteArray) (hc : c < 1) :
    Calls Try.prog 43 #[.agg #[.string na, .int .i64 ka, .slice xa n ca, sa], .agg #[.string nb, .int .i64 kb, .slice xb m cb, sb], .agg #[.int .i64 c, .int .i64 fl, .string r]] w fun e w' => e = .returned (.bool false) ∧ Below w.heap.size w w' := by
  go_enter Try.func43, Try.ntmps43
  go_wp2
  all_goals (refine bodyPost_ret (v := .bool false) (by simp [results, Try.results43, go_sem]) rfl ⟨rfl, ?_⟩; repeat (first | exact Below.refl _ _ | refine Below.drew ?_ | refine Below.alloc ?_ (by simp <;> omega) _))
theorem v43_high (w : World) (na nb : ByteArray) (ka kb fl : Int) (xa xb : Option Addr) (sa sb : Value) (n ca m cb : Nat) (c : Nat) (r : ByteArray) (hc : ¬ (c : Int) < 1) (hn : ¬ (c : Int) < (n : Int)) :
    Calls Try.prog 43 #[.agg #[.string na, .int .i64 ka, .slice xa n ca, sa], .agg #[.string nb, .int .i64 kb, .slice xb m cb, sb], .agg #[.int .i64 c, .int .i64 fl, .string r]] w fun e w' => e = .returned (.bool false) ∧ Below w.heap.size w w' := by
  go_enter Try.func43, Try.ntmps43
  go_wp2
  all_goals (refine bodyPost_ret (v := .bool false) (by simp [results, Try.results43, go_sem]) rfl ⟨rfl, ?_⟩; repeat (first | exact Below.refl _ _ | refine Below.drew ?_ | refine Below.alloc ?_ (by simp <;> omega) _))
theorem v43_rule (w : World) (na nb : ByteArray) (ka kb fl : Int) (xa xb : Option Addr) (sa sb : Value) (n ca m cb : Nat) (c : Nat) (r : ByteArray) (hc : ¬ (c : Int) < 1) (hn : (c : Int) < (n : Int)) (hp : (r.toList == [80]) = false) (hl : (r.toList == [76]) = false) (hv : (r.toList == [86]) = false) :
    Calls Try.prog 43 #[.agg #[.string na, .int .i64 ka, .slice xa n ca, sa], .agg #[.string nb, .int .i64 kb, .slice xb m cb, sb], .agg #[.int .i64 c, .int .i64 fl, .string r]] w fun e w' => e = .returned (.bool false) ∧ Below w.heap.size w w' := by
  go_enter Try.func43, Try.ntmps43
  go_wp2
  all_goals (refine bodyPost_ret (v := .bool false) (by simp [results, Try.results43, go_sem]) rfl ⟨rfl, ?_⟩; repeat (first | exact Below.refl _ _ | refine Below.drew ?_ | refine Below.alloc ?_ (by simp <;> omega) _))
end Go.Proofs.Ytbchmbddcdionaa.Code
