/- The row of the law TopForest: out of the evaluator's answer (Pure) and the evaluator's soundness. Printed by a program of ours (row.py). -/
import Derived.Test.YtondenmkhfignaaDoorRows
import Derived.Test.YtondenmkhfignaaDoorCards
import Derived.Test.YtondenmkhfignaaDoorTie
import Derived.Test.YtondenmkhfignaaDoorRw
import Derived.Test.YtondenmkhfignaaDoorU3
import Derived.Test.YtondenmkhfignaaDoorEvR
import Derived.WalkKit
import Derived.ProofKit
import Derived.OpenShut
import Derived.ShutString
import Derived.ChangeOld
import Derived.Below
import Derived.SizedLaws
import Derived.Carry
import Derived.LaidLaws
import Derived.LaidMore
import Derived.Lay
import Derived.LaidOnce
import Derived.SevenTiedAt
namespace Go.Proofs.YtondenmkhfignaaDoor.topForest
open Go.ChangeShapes Go.WideShapes Go.ChangeAt Go.RowKit Go.Proofs.YtondenmkhfignaaDoor.Ev Go.Proofs.YtondenmkhfignaaDoor.Code
set_option linter.unusedVariables false
theorem own : ownKnob Tryd.prog.godebug = none := by kernel_rfl
theorem laidOut : laidOutB Tryd.prog = true := by kernel_rfl
theorem calls : CallOk Tryd.prog (evC cprog) := evC_sound (Checked.mixed Tryd.checked) fun _ _ => cprog_sound
theorem flat0 : flatT Tryd.prog 8 25 = some [.str, (.int .i64), (.sl [.str, (.int .i64), (.int .i64), (.int .i64), (.sl [.str, (.int .i64), (.int .i64)]), (.int .i64), .bool, .bool]), (.sl [.str, (.int .i64), (.int .i64), .str])] := by kernel_rfl
theorem agg0 : aggT Tryd.prog 25 = some true := by kernel_rfl
theorem flat1 : flatT Tryd.prog 8 26 = some [(.sl [(.int .i64), (.int .i64), .str])] := by kernel_rfl
theorem agg1 : aggT Tryd.prog 26 = some false := by kernel_rfl
def laid : List (String × DataW Unit) := [("unicode/utf8.acceptRanges", Rows.laid_unicode_utf8_acceptRanges), ("unicode/utf8.first", Rows.laid_unicode_utf8_first)]
set_option maxRecDepth 100000 in
theorem lifted (os : Os) (started : os.Started) (H : Type) (enc : TypeId × Value → H) :
    ReturnsInHanded {} Tryd.checked os 3 .any (fun w args => (Rows.topForestSpec.pre enc Tryd.prog Tryd.f3 [] false w args ∧ laidMetH Tryd.prog laid w) ∧ sizedMet enc Tryd.prog Tryd.f3 (OpenSpec.ofChange Rows.topForestSpec) false w args) (Rows.topForestSpec.post enc Tryd.prog Tryd.f3 false true false false) := by
  refine returns_laid (C := Tryd.checked) (X := fun w _ => laidMetH Tryd.prog laid w) (fun _ _ _ hh h => h.of_heap hh) own started (by kernel_rfl) Tryd.func3
    (ChangeSpec.witness_shaped (enc := enc) (C := Tryd.checked) (os := os) (X := fun w _ => laidMetH Tryd.prog laid w) false (World.laidAll Tryd.prog os laid) #[.agg #[.string ByteArray.empty, .int .i64 0, .slice none 0 0, .slice none 0 0], .slice none 0 0] 8 (World.laidAll_os _ _ _)
      (World.shaped_of_ZipB (by kernel_rfl) (by kernel_rfl)) (by kernel_rfl) (by kernel_rfl) (by kernel_rfl)
      (by rw [MakeChecks.laidMetH_plain _ _ _ (by kernel_rfl)]; exact laidMet_laidAll _ (by kernel_rfl) (by kernel_rfl))) ?_
  intro W base args ds gs before hval0 hW hcnd hsz0 hsh _
  have hsz : (DataW.weightsEach Tryd.prog (Tryd.f3.params.toList ++ Rows.topForestSpec.plain.varTypes Tryd.prog) (ds ++ gs)).all (· ≤ reachBytes) = true := hsz0
  have hval : ∀ (j : Nat) t v, Tryd.f3.params[j]? = some t → args[j]? = some v → Value.okWide Tryd.prog W .any base t v := hval0
  have hW' := hW
  obtain ⟨p, q, hA0, hV, rfl, hfz, hnd⟩ := hW
  have hA : DataW.TrodAll enc Tryd.prog W 0 (fun _ => true) true Tryd.f3.params.toList args.toList ds p := hA0
  rw [Tryd.params3] at hA hval hsz
  obtain ⟨v0, vs0, d0, ds0, p0, q0, hargs, rfl, rfl, h0, r0⟩ := trodAll_cons hA
  obtain ⟨v1, vs1, d1, ds1, p1, q1, rfl, rfl, rfl, h1, r1⟩ := trodAll_cons r0
  obtain ⟨rfl, rfl, rfl⟩ := trodAll_nil r1
  obtain rfl : args = #[v0, v1] := by cases args; simp_all
  obtain ⟨rfl, rfl⟩ := trodVars_none hV
  have w0 : ∀ n ∈ d0.weights Tryd.prog 25, n ≤ reachBytes := fun n hn => by
    have := List.all_eq_true.1 hsz n (DataW.weights_mem_each (j := 0) (t := 25) (d := d0) rfl rfl n hn)
    simpa using this
  have lt0 : ∀ x ∈ p0, x.block < W.heap.size := by obtain ⟨m, hm⟩ := h0; exact DataW.trod_lt m _ _ _ hm
  obtain ⟨a0, t0, rep0⟩ := open_arg (hval 0 25 v0 rfl rfl) h0 flat0 agg0 w0
  have w1 : ∀ n ∈ d1.weights Tryd.prog 26, n ≤ reachBytes := fun n hn => by
    have := List.all_eq_true.1 hsz n (DataW.weights_mem_each (j := 1) (t := 26) (d := d1) rfl rfl n hn)
    simpa using this
  have lt1 : ∀ x ∈ p1, x.block < W.heap.size := by obtain ⟨m, hm⟩ := h1; exact DataW.trod_lt m _ _ _ hm
  obtain ⟨a1, t1, rep1⟩ := open_arg (hval 1 26 v1 rfl rfl) h1 flat1 agg1 w1
  have globOk : GlobOk (memOf W) := globOk_of hsh
  obtain ⟨H', hev⟩ := Pure.TopForest a0 t0 a1 t1
  obtain ⟨_, hc⟩ := calls 3 [a0, a1] [] (.bool true) H' hev
  refine (hc (Sta0 W) W W.heap.size [v0, v1] rfl (wrel0 W globOk) rfl ?_).mono fun e W' ⟨r, S', he, _, hr, _, _, bel⟩ => ?_
  · intro i x v hx hv
    cases i with
    | zero => simp at hx hv; subst hx; subst hv; exact rep0
    | succ i =>
      cases i with
      | zero => simp at hx hv; subst hx; subst hv; exact rep1
      | succ i =>
        simp at hx
  obtain rfl : r = .bool true := by cases hr with | one h => cases h with | s h => cases h with | frz h => cases h; rfl
  subst he
  exact ⟨_, rfl, _, _, _, [], _, [], hW', trodAll_mk1 (shut_bool Tryd.underlying4 _), (trodAll_cons_mk (Below.trod laidOut (by kernel_rfl) (of_decide_eq_true (by kernel_rfl)) h0 bel.to lt0) (trodAll_cons_mk (Below.trod laidOut (by kernel_rfl) (of_decide_eq_true (by kernel_rfl)) h1 bel.to lt1) trodAll_mk0)), rfl, bel.to.frame _, fun h => by cases h⟩
theorem over : Rows.topForestRow.holds Tryd.pinned (OpenSpec.ofChange Rows.topForestSpec) :=
  OpenClaim.holds_of_wide 3 Tryd.f3 rfl rfl rfl rfl rfl rfl rfl ⟨rfl, rfl, rfl, rfl, rfl⟩ rfl rfl rfl rfl rfl (by kernel_rfl) Tryd.func3 (by kernel_rfl)
    (of_decide_eq_true (by kernel_rfl)) (by unfold Func.isWrapper; first | (rw [if_pos (by decide +kernel)]; kernel_rfl) | (rw [if_neg (by decide +kernel)]; exact ⟨rfl, rfl⟩))
    (fun os started H enc _ => lifted os started H enc)
theorem proved : Rows.TopForestCardSaid :=
  Claim7.holds_tied_plain_at .later [] [.data, .pinned] true (true, "a7682df2103d9e4491f74097ada1f3d471e3ec82aa5d18a175655d192d4e75fe") false over (fun _ h => by cases h) (by kernel_rfl) (fun _ h => by cases h) topForest_row_tie rfl ⟨rfl, rfl⟩ (by kernel_rfl) rfl
    (fun f fn hf hfn => by
      obtain rfl : f = 3 := Option.some.inj ((show Tryd.prog.funcNamed "progeny/progenytop.TopForest" = some 3 by kernel_rfl).symm.trans hf) |>.symm
      obtain rfl : fn = Tryd.f3 := (Option.some.inj (Tryd.func3.symm.trans hfn)).symm
      exact ⟨by kernel_rfl, fun j t ht => by
        rw [Tryd.params3] at ht
        have hm : t ∈ [25, 26] := by simpa using Array.mem_of_getElem? ht
        have hall : ([25, 26].all fun u => !Tryd.prog.wantsStandIn u) = true := by kernel_rfl
        exact (show Tryd.prog.wantsStandIn t = false by simpa using List.all_eq_true.1 hall t hm)⟩)
    (by kernel_rfl)
end Go.Proofs.YtondenmkhfignaaDoor.topForest
namespace Go.Proofs.YtondenmkhfignaaDoor
/-- The row, under a short name, for the claim. -/
theorem topForest_holds : Rows.TopForestCardSaid := topForest.proved
end Go.Proofs.YtondenmkhfignaaDoor
