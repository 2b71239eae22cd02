/- slices.Backward's closure over whole numbers: it hands out the numbers, the last one first. -/
import Derived.Test.YtbchmbddcdionaaEvQ
import Derived.Test.YtbchmbddcdionaaProg
import Derived.Shelf.Abstract
import Derived.WalkKit
import Derived.OwnWalkIn
import Derived.TacticsInMore
import Derived.LoopNIn
import Derived.LoopIn
import Derived.RangeFuncBox
import Derived.KernelRfl
set_option linter.unusedSimpArgs false
set_option linter.unusedVariables false
namespace Go.Proofs.Ytbchmbddcdionaa.Ev
open Go.RowKit Go.Shelf Go.Proofs

attribute [local go_sem] Oper.semAt_some

theorem back_at (zs : List Int) (k : Nat) (hk : k < zs.length) : ∃ z, zs[zs.length - 1 - k]? = some z ∧ zs.zipIdx.reverse[k]? = some (z, zs.length - 1 - k) := by
  have h : zs.length - 1 - k < zs.length := by omega
  refine ⟨zs[zs.length - 1 - k], List.getElem?_eq_getElem h, ?_⟩
  rw [List.getElem?_reverse (by simpa using hk)]
  simp [List.getElem?_zipIdx, h]

set_option maxRecDepth 100000 in
set_option maxHeartbeats 4000000 in
theorem back66 : BackOk Try.prog 66 := by
  refine ⟨enters_of Try.func66 (by kernel_rfl) rfl, fun Bs zs l J W hG hY h0 => ?_⟩
  obtain ⟨bb, bo, bs⟩ := Bs
  obtain ⟨hre, a0, cap0, hB0, _⟩ := hG 0 W h0
  have hbs : bs = none := by
    cases bs with
    | none => rfl
    | some x =>
      unfold World.cell? at hB0
      split at hB0 <;> simp at hB0
  subst hbs
  have hre' : zs.length * 8 ≤ 140737488355328 := hre
  refine callsIn_of_wp Try.func66 rfl trivial ?_ rfl
  simp only [Try.ntmps66, List.size_toArray, List.length_cons, List.length_nil, Nat.reduceAdd, Nat.reduceSub, Array.replicate_succ, Array.replicate_zero, List.push_toArray, List.append_toArray, List.nil_append, List.cons_append]
  gi_wp2
  gi_loopw [3] (fun i wr => ∃ k : Nat, k ≤ zs.length ∧ i = .int .i64 ((zs.length : Int) - 1 - k) ∧ J k wr)
    (fun i _ => (intOf i + 1).toNat)
  case atStart => exact ⟨0, Nat.zero_le _, by simp, h0⟩
  case round =>
    obtain ⟨k, hk, rfl, hJ⟩ := hrel
    by_cases hlt : k < zs.length
    · obtain ⟨z, hz, hx⟩ := back_at zs k hlt
      obtain ⟨_, a, cap, hcell, hel⟩ := hG k wr hJ
      obtain ⟨b, off, rfl, hc⟩ := hel _ z hz
      obtain ⟨fn, tmps, assign, body, hy, hR⟩ := hY k _ wr hx hJ
      dsimp only at hy
      have hcast : ((zs.length - 1 - k : Nat) : Int) = (zs.length : Int) - 1 - k := by omega
      rw [hcast] at hy
      gi_wp2
      refine hR.mono ?_
      rintro e W3 ⟨rfl, hJ3⟩
      gi_wp2
      go_roundw
      case rel => exact ⟨k + 1, by omega, by simp; omega, hJ3⟩
      case measure => simp [intOf]; omega
    · obtain rfl : k = zs.length := by omega
      gi_wp2
      go_end0
      exact ⟨⟨_, rfl⟩, hJ⟩
end Go.Proofs.Ytbchmbddcdionaa.Ev
