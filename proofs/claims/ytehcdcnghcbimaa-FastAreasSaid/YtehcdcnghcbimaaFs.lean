/- fast: First, closed. -/
import Derived.Test.YtehcdcnghcbimaaCode
import Derived.Test.YtehcdcnghcbimaaEvW
set_option linter.unusedSimpArgs false
set_option linter.unusedVariables false
namespace Go.Proofs.Ytehcdcnghcbimaa.Code
open Go.Proofs.Ytehcdcnghcbimaa.Ev

theorem first_run : evCall cprog 100 11 [] [] = some (.bool true, []) := by kernel_rfl
theorem closed_any {call it} {c : CFn} {b : Bool} (hc : c.closed = true) (h : evFn call it c [] [] = some (.bool b, [])) (H : Heap) : evFn call it c [] H = some (.bool b, H) := by
  unfold evFn at h ⊢
  rw [if_pos hc] at h ⊢
  simp only at h ⊢
  split at h
  · cases h; rfl
  · cases h
theorem f11 (H : Heap) : cal (evC cprog) false 11 [] H = some (.bool true, H) := by
  have h := evC_of first_run
  rw [evC_fn at11] at h
  rw [cal_of at11, closed_any rfl h H, calK_f, gc_same]
end Go.Proofs.Ytehcdcnghcbimaa.Code
