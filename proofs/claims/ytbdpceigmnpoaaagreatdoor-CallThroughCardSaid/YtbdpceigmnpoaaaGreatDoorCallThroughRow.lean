/- The row of the law CallThrough: out of the evaluator's answer (Pure) and the evaluator's soundness. Printed by a program of ours (row.py). -/
import Derived.Test.YtbdpceigmnpoaaaGreatDoorRows
import Derived.Test.YtbdpceigmnpoaaaGreatDoorCards
import Derived.Test.YtbdpceigmnpoaaaGreatDoorTie
import Derived.Test.YtbdpceigmnpoaaaGreatDoorRw
import Derived.Test.YtbdpceigmnpoaaaGreatDoorU2
import Derived.Test.YtbdpceigmnpoaaaGreatDoorEvR
import Derived.WalkKit
import Derived.ProofKit
import Derived.OpenShut
import Derived.ShutString
import Derived.ChangeOld
import Derived.Below
import Derived.SizedLaws
import Derived.Carry
import Derived.LaidLaws
import Derived.LaidMore
import Derived.Lay
import Derived.LaidOnce
import Derived.SevenTiedAt
namespace Go.Proofs.YtbdpceigmnpoaaaGreatDoor.callThrough
open Go.ChangeShapes Go.WideShapes Go.ChangeAt Go.RowKit Go.Proofs.YtbdpceigmnpoaaaGreatDoor.Ev Go.Proofs.YtbdpceigmnpoaaaGreatDoor.Code
set_option linter.unusedVariables false
theorem own : ownKnob Tryz.prog.godebug = none := by kernel_rfl
theorem laidOut : laidOutB Tryz.prog = true := by kernel_rfl
theorem calls : CallOk Tryz.prog (evC cprog) := evC_sound (Checked.mixed Tryz.checked) fun _ _ => cprog_sound
theorem flat0 : flatT Tryz.prog 8 25 = some [.str, (.int .i64), (.sl [.str, (.int .i64), (.int .i64), (.int .i64), (.sl [.str, (.int .i64), (.int .i64)]), (.int .i64), .bool, .bool]), (.sl [.str, (.int .i64), (.int .i64), .str])] := by kernel_rfl
theorem agg0 : aggT Tryz.prog 25 = some true := by kernel_rfl
theorem flat1 : flatT Tryz.prog 8 26 = some [(.sl [(.int .i64), .str])] := by kernel_rfl
theorem agg1 : aggT Tryz.prog 26 = some false := by kernel_rfl
theorem flat2 : flatT Tryz.prog 8 4 = some [.bool] := by kernel_rfl
theorem agg2 : aggT Tryz.prog 4 = some false := by kernel_rfl
def laid : List (String × DataW Unit) := [("unicode/utf8.acceptRanges", Rows.laid_unicode_utf8_acceptRanges), ("unicode/utf8.first", Rows.laid_unicode_utf8_first)]
set_option maxRecDepth 100000 in
theorem lifted (os : Os) (started : os.Started) (H : Type) (enc : TypeId × Value → H) :
    ReturnsInHanded {} Tryz.checked os 4 .any (fun w args => (Rows.callThroughSpec.pre enc Tryz.prog Tryz.f4 [] false w args ∧ laidMetH Tryz.prog laid w) ∧ sizedMet enc Tryz.prog Tryz.f4 (OpenSpec.ofChange Rows.callThroughSpec) false w args) (Rows.callThroughSpec.post enc Tryz.prog Tryz.f4 false true false false) := by
  refine returns_laid (C := Tryz.checked) (X := fun w _ => laidMetH Tryz.prog laid w) (fun _ _ _ hh h => h.of_heap hh) own started (by kernel_rfl) Tryz.func4
    (ChangeSpec.witness_shaped (enc := enc) (C := Tryz.checked) (os := os) (X := fun w _ => laidMetH Tryz.prog laid w) false (World.laidAll Tryz.prog os laid) #[.agg #[.string ByteArray.empty, .int .i64 0, .slice none 0 0, .slice none 0 0], .slice none 0 0, .bool false] 8 (World.laidAll_os _ _ _)
      (World.shaped_of_ZipB (by kernel_rfl) (by kernel_rfl)) (by kernel_rfl) (by kernel_rfl) (by kernel_rfl)
      (by rw [MakeChecks.laidMetH_plain _ _ _ (by kernel_rfl)]; exact laidMet_laidAll _ (by kernel_rfl) (by kernel_rfl))) ?_
  intro W base args ds gs before hval0 hW hcnd hsz0 hsh _
  have hsz : (DataW.weightsEach Tryz.prog (Tryz.f4.params.toList ++ Rows.callThroughSpec.plain.varTypes Tryz.prog) (ds ++ gs)).all (· ≤ reachBytes) = true := hsz0
  have hval : ∀ (j : Nat) t v, Tryz.f4.params[j]? = some t → args[j]? = some v → Value.okWide Tryz.prog W .any base t v := hval0
  have hW' := hW
  obtain ⟨p, q, hA0, hV, rfl, hfz, hnd⟩ := hW
  have hA : DataW.TrodAll enc Tryz.prog W 0 (fun _ => true) true Tryz.f4.params.toList args.toList ds p := hA0
  rw [Tryz.params4] at hA hval hsz
  obtain ⟨v0, vs0, d0, ds0, p0, q0, hargs, rfl, rfl, h0, r0⟩ := trodAll_cons hA
  obtain ⟨v1, vs1, d1, ds1, p1, q1, rfl, rfl, rfl, h1, r1⟩ := trodAll_cons r0
  obtain ⟨v2, vs2, d2, ds2, p2, q2, rfl, rfl, rfl, h2, r2⟩ := trodAll_cons r1
  obtain ⟨rfl, rfl, rfl⟩ := trodAll_nil r2
  obtain rfl : args = #[v0, v1, v2] := by cases args; simp_all
  obtain ⟨rfl, rfl⟩ := trodVars_none hV
  have w0 : ∀ n ∈ d0.weights Tryz.prog 25, n ≤ reachBytes := fun n hn => by
    have := List.all_eq_true.1 hsz n (DataW.weights_mem_each (j := 0) (t := 25) (d := d0) rfl rfl n hn)
    simpa using this
  have lt0 : ∀ x ∈ p0, x.block < W.heap.size := by obtain ⟨m, hm⟩ := h0; exact DataW.trod_lt m _ _ _ hm
  obtain ⟨a0, t0, rep0⟩ := open_arg (hval 0 25 v0 rfl rfl) h0 flat0 agg0 w0
  have w1 : ∀ n ∈ d1.weights Tryz.prog 26, n ≤ reachBytes := fun n hn => by
    have := List.all_eq_true.1 hsz n (DataW.weights_mem_each (j := 1) (t := 26) (d := d1) rfl rfl n hn)
    simpa using this
  have lt1 : ∀ x ∈ p1, x.block < W.heap.size := by obtain ⟨m, hm⟩ := h1; exact DataW.trod_lt m _ _ _ hm
  obtain ⟨a1, t1, rep1⟩ := open_arg (hval 1 26 v1 rfl rfl) h1 flat1 agg1 w1
  have w2 : ∀ n ∈ d2.weights Tryz.prog 4, n ≤ reachBytes := fun n hn => by
    have := List.all_eq_true.1 hsz n (DataW.weights_mem_each (j := 2) (t := 4) (d := d2) rfl rfl n hn)
    simpa using this
  have lt2 : ∀ x ∈ p2, x.block < W.heap.size := by obtain ⟨m, hm⟩ := h2; exact DataW.trod_lt m _ _ _ hm
  obtain ⟨a2, t2, rep2⟩ := open_arg (hval 2 4 v2 rfl rfl) h2 flat2 agg2 w2
  have globOk : GlobOk (memOf W) := globOk_of hsh
  obtain ⟨H', hev⟩ := Pure.CallThrough a0 t0 a1 t1 a2 t2
  obtain ⟨_, hc⟩ := calls 4 [a0, a1, a2] [] (.bool true) H' hev
  refine (hc (Sta0 W) W W.heap.size [v0, v1, v2] rfl (wrel0 W globOk) rfl ?_).mono fun e W' ⟨r, S', he, _, hr, _, _, bel⟩ => ?_
  · intro i x v hx hv
    cases i with
    | zero => simp at hx hv; subst hx; subst hv; exact rep0
    | succ i =>
      cases i with
      | zero => simp at hx hv; subst hx; subst hv; exact rep1
      | succ i =>
        cases i with
        | zero => simp at hx hv; subst hx; subst hv; exact rep2
        | succ i =>
          simp at hx
  obtain rfl : r = .bool true := by cases hr with | one h => cases h with | s h => cases h with | frz h => cases h; rfl
  subst he
  exact ⟨_, rfl, _, _, _, [], _, [], hW', trodAll_mk1 (shut_bool Tryz.underlying4 _), (trodAll_cons_mk (Below.trod laidOut (by kernel_rfl) (of_decide_eq_true (by kernel_rfl)) h0 bel.to lt0) (trodAll_cons_mk (Below.trod laidOut (by kernel_rfl) (of_decide_eq_true (by kernel_rfl)) h1 bel.to lt1) (trodAll_cons_mk (Below.trod laidOut (by kernel_rfl) (of_decide_eq_true (by kernel_rfl)) h2 bel.to lt2) trodAll_mk0))), rfl, bel.to.frame _, fun h => by cases h⟩
theorem over : Rows.callThroughRow.holds Tryz.pinned (OpenSpec.ofChange Rows.callThroughSpec) :=
  OpenClaim.holds_of_wide 4 Tryz.f4 rfl rfl rfl rfl rfl rfl rfl ⟨rfl, rfl, rfl, rfl, rfl⟩ rfl rfl rfl rfl rfl (by kernel_rfl) Tryz.func4 (by kernel_rfl)
    (of_decide_eq_true (by kernel_rfl)) (by unfold Func.isWrapper; first | (rw [if_pos (by decide +kernel)]; kernel_rfl) | (rw [if_neg (by decide +kernel)]; exact ⟨rfl, rfl⟩))
    (fun os started H enc _ => lifted os started H enc)
theorem proved : Rows.CallThroughCardSaid :=
  Claim7.holds_tied_plain_at .later [] [.data, .pinned] true (true, "7badb380429ad031ab07b4330afe3e1c226506141b04f89e32d71ee0cdd0ec31") false over (fun _ h => by cases h) (by kernel_rfl) (fun _ h => by cases h) callThrough_row_tie rfl ⟨rfl, rfl⟩ (by kernel_rfl) rfl
    (fun f fn hf hfn => by
      obtain rfl : f = 4 := Option.some.inj ((show Tryz.prog.funcNamed "progeny/progenylaw15.CallThrough" = some 4 by kernel_rfl).symm.trans hf) |>.symm
      obtain rfl : fn = Tryz.f4 := (Option.some.inj (Tryz.func4.symm.trans hfn)).symm
      exact ⟨by kernel_rfl, fun j t ht => by
        rw [Tryz.params4] at ht
        have hm : t ∈ [25, 26, 4] := by simpa using Array.mem_of_getElem? ht
        have hall : ([25, 26, 4].all fun u => !Tryz.prog.wantsStandIn u) = true := by kernel_rfl
        exact (show Tryz.prog.wantsStandIn t = false by simpa using List.all_eq_true.1 hall t hm)⟩)
    (by kernel_rfl)
end Go.Proofs.YtbdpceigmnpoaaaGreatDoor.callThrough
namespace Go.Proofs.YtbdpceigmnpoaaaGreatDoor
/-- The row, under a short name, for the claim. -/
theorem callThrough_holds : Rows.CallThroughCardSaid := callThrough.proved
end Go.Proofs.YtbdpceigmnpoaaaGreatDoor
