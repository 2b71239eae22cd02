/- The row of the law TopScreen: out of the evaluator's answer (Pure) and the evaluator's soundness. Printed by a program of ours (row.py). -/
import Derived.Test.YtondenmkhfignaaRows
import Derived.Test.YtondenmkhfignaaU2
import Derived.Test.YtondenmkhfignaaEvR
import Derived.WalkKit
import Derived.ProofKit
import Derived.OpenShut
import Derived.ShutString
import Derived.ChangeOld
import Derived.Below
import Derived.SizedLaws
import Derived.Carry
namespace Go.Proofs.Ytondenmkhfignaa.topScreen
open Go.ChangeShapes Go.WideShapes Go.ChangeAt Go.RowKit Go.Proofs.Ytondenmkhfignaa.Ev Go.Proofs.Ytondenmkhfignaa.Code
set_option linter.unusedVariables false
theorem own : ownKnob Try.prog.godebug = none := by kernel_rfl
theorem laidOut : laidOutB Try.prog = true := by kernel_rfl
theorem calls : CallOk Try.prog (evC cprog) := evC_sound (Checked.mixed Try.checked) fun _ _ => cprog_sound
theorem flat0 : flatT Try.prog 8 25 = some [(.int .i64), (.int .i64), (.sl [(.int .i64), (.int .i64), .str]), (.sl [.str, (.int .i64), (.int .i64), (.int .i64), (.int .i64), (.int .i64), (.int .u8)])] := by kernel_rfl
theorem agg0 : aggT Try.prog 25 = some true := by kernel_rfl
theorem flat1 : flatT Try.prog 8 26 = some [(.sl [.str])] := by kernel_rfl
theorem agg1 : aggT Try.prog 26 = some false := by kernel_rfl
theorem flat2 : flatT Try.prog 8 27 = some [(.sl [.str, .str])] := by kernel_rfl
theorem agg2 : aggT Try.prog 27 = some false := by kernel_rfl
set_option maxRecDepth 100000 in
theorem lifted (os : Os) (started : os.Started) (H : Type) (enc : TypeId × Value → H) :
    ReturnsInHanded {} Try.checked os 3 .any (Rows.topScreenSpec.pre6 enc Try.prog Try.f3 Rows.topScreenRow.domain false) (Rows.topScreenSpec.post enc Try.prog Try.f3 false true false false) := by
  refine returnsInHanded_of_change_sized (C := Try.checked) own started (by kernel_rfl) Try.func3
    (ChangeSpec.witness6 (enc := enc) (C := Try.checked) false ⟨#[], #[.agg #[.int .i64 0, .int .i64 0, .slice none 0 0, .slice none 0 0], .slice none 0 0, .slice none 0 0], []⟩ 8 (by kernel_rfl) (by kernel_rfl) (by kernel_rfl) (by kernel_rfl)) ?_
  intro W base args ds gs before hval0 hW hcnd hsz0 _
  have hsz : (DataW.weightsEach Try.prog (Try.f3.params.toList ++ Rows.topScreenSpec.plain.varTypes Try.prog) (ds ++ gs)).all (· ≤ reachBytes) = true := hsz0
  have hval : ∀ (j : Nat) t v, Try.f3.params[j]? = some t → args[j]? = some v → Value.okWide Try.prog W .any base t v := hval0
  have hW' := hW
  obtain ⟨p, q, hA0, hV, rfl, hfz, hnd⟩ := hW
  have hA : DataW.TrodAll enc Try.prog W 0 (fun _ => true) true Try.f3.params.toList args.toList ds p := hA0
  rw [Try.params3] at hA hval hsz
  obtain ⟨v0, vs0, d0, ds0, p0, q0, hargs, rfl, rfl, h0, r0⟩ := trodAll_cons hA
  obtain ⟨v1, vs1, d1, ds1, p1, q1, rfl, rfl, rfl, h1, r1⟩ := trodAll_cons r0
  obtain ⟨v2, vs2, d2, ds2, p2, q2, rfl, rfl, rfl, h2, r2⟩ := trodAll_cons r1
  obtain ⟨rfl, rfl, rfl⟩ := trodAll_nil r2
  obtain rfl : args = #[v0, v1, v2] := by cases args; simp_all
  obtain ⟨rfl, rfl⟩ := trodVars_none hV
  have w0 : ∀ n ∈ d0.weights Try.prog 25, n ≤ reachBytes := fun n hn => by
    have := List.all_eq_true.1 hsz n (DataW.weights_mem_each (j := 0) (t := 25) (d := d0) rfl rfl n hn)
    simpa using this
  have lt0 : ∀ x ∈ p0, x.block < W.heap.size := by obtain ⟨m, hm⟩ := h0; exact DataW.trod_lt m _ _ _ hm
  obtain ⟨a0, t0, rep0⟩ := open_arg (hval 0 25 v0 rfl rfl) h0 flat0 agg0 w0
  have w1 : ∀ n ∈ d1.weights Try.prog 26, n ≤ reachBytes := fun n hn => by
    have := List.all_eq_true.1 hsz n (DataW.weights_mem_each (j := 1) (t := 26) (d := d1) rfl rfl n hn)
    simpa using this
  have lt1 : ∀ x ∈ p1, x.block < W.heap.size := by obtain ⟨m, hm⟩ := h1; exact DataW.trod_lt m _ _ _ hm
  obtain ⟨a1, t1, rep1⟩ := open_arg (hval 1 26 v1 rfl rfl) h1 flat1 agg1 w1
  have w2 : ∀ n ∈ d2.weights Try.prog 27, n ≤ reachBytes := fun n hn => by
    have := List.all_eq_true.1 hsz n (DataW.weights_mem_each (j := 2) (t := 27) (d := d2) rfl rfl n hn)
    simpa using this
  have lt2 : ∀ x ∈ p2, x.block < W.heap.size := by obtain ⟨m, hm⟩ := h2; exact DataW.trod_lt m _ _ _ hm
  obtain ⟨a2, t2, rep2⟩ := open_arg (hval 2 27 v2 rfl rfl) h2 flat2 agg2 w2
  have globOk : GlobOk (memOf W) := trivial
  obtain ⟨H', hev⟩ := Pure.TopScreen a0 t0 a1 t1 a2 t2
  obtain ⟨_, hc⟩ := calls 3 [a0, a1, a2] [] (.bool true) H' hev
  refine (hc (Sta0 W) W W.heap.size [v0, v1, v2] rfl (wrel0 W globOk) rfl ?_).mono fun e W' ⟨r, S', he, _, hr, _, _, bel⟩ => ?_
  · intro i x v hx hv
    cases i with
    | zero => simp at hx hv; subst hx; subst hv; exact rep0
    | succ i =>
      cases i with
      | zero => simp at hx hv; subst hx; subst hv; exact rep1
      | succ i =>
        cases i with
        | zero => simp at hx hv; subst hx; subst hv; exact rep2
        | succ i =>
          simp at hx
  obtain rfl : r = .bool true := by cases hr with | one h => cases h with | s h => cases h with | frz h => cases h; rfl
  subst he
  exact ⟨_, rfl, _, _, _, [], _, [], hW', trodAll_mk1 (shut_bool Try.underlying4 _), (trodAll_cons_mk (Below.trod laidOut (by kernel_rfl) (of_decide_eq_true (by kernel_rfl)) h0 bel.to lt0) (trodAll_cons_mk (Below.trod laidOut (by kernel_rfl) (of_decide_eq_true (by kernel_rfl)) h1 bel.to lt1) (trodAll_cons_mk (Below.trod laidOut (by kernel_rfl) (of_decide_eq_true (by kernel_rfl)) h2 bel.to lt2) trodAll_mk0))), rfl, bel.to.frame _, fun h => by cases h⟩
theorem over : Rows.topScreenRow.holds Try.pinned (OpenSpec.ofChange Rows.topScreenSpec) :=
  OpenClaim.holds_of_wide 3 Try.f3 rfl rfl rfl rfl rfl rfl rfl ⟨rfl, rfl, rfl, rfl, rfl⟩ rfl rfl rfl rfl rfl (by kernel_rfl) Try.func3 (by kernel_rfl)
    (of_decide_eq_true (by kernel_rfl)) (by unfold Func.isWrapper; first | (rw [if_pos (by decide +kernel)]; kernel_rfl) | (rw [if_neg (by decide +kernel)]; exact ⟨rfl, rfl⟩))
    (fun os started H enc _ => lifted os started H enc)
theorem proved : Rows.TopScreenSaid := over
end Go.Proofs.Ytondenmkhfignaa.topScreen
namespace Go.Proofs.Ytondenmkhfignaa
/-- The row, under a short name, for the claim. -/
theorem topScreen_holds : Rows.TopScreenSaid := topScreen.proved
end Go.Proofs.Ytondenmkhfignaa
