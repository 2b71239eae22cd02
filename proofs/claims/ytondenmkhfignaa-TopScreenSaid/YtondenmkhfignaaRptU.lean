/- strings.Repeat: what the kit's contract says of it, for the evaluator. -/
import Derived.Test.YtondenmkhfignaaShelf
import Derived.Test.YtondenmkhfignaaRptP
set_option linter.unusedSimpArgs false
set_option linter.unusedVariables false
namespace Go.Proofs.Ytondenmkhfignaa.Ev
open Go Go.RowKit

theorem rpt_strV {S : Sta} {s : ByteArray} {v : Value} (h : RepV S (.str s) v) : v = .string s := by
  cases h with | one h => cases h with | s h => cases h with | frz h => cases h; rfl
theorem rpt_intV {S : Sta} {k : IntKind} {n : Int} {v : Value} (h : RepV S (.int k n) v) : v = .int k n := by
  cases h with | one h => cases h with | s h => cases h with | frz h => cases h; rfl
theorem userRpt {c : CFn} (hb : c.body = .user pRpt) (hcl : c.closed = false) (hsp : c.split = false) (hres : c.res = [.t 0]) : UserOk Try.prog 91 c where
  fn := ⟨Try.f91, Try.func91, by kernel_rfl, by kernel_rfl⟩
  user := ⟨pRpt, hb⟩
  plain := ⟨hcl, hsp⟩
  res := ⟨1, by rw [hres]; rfl, by
    intro p hp args H q hq
    rw [hb] at hp; cases hp
    unfold pRpt at hq
    split at hq
    · split at hq
      · cases hq; rfl
      · cases hq
    · cases hq⟩
  ok := by
    intro p hp args H vs' H' h S w B vs hS hW hl hr
    rw [hb] at hp; cases hp
    unfold pRpt at h
    split at h
    case h_2 => cases h
    rename_i s n
    split at h
    case isFalse => cases h
    rename_i hc
    obtain ⟨h1, h2, h3⟩ := hc
    cases h
    match vs, hl with
    | [v0, v1], _ =>
      have e0 := rpt_strV (hr 0 _ v0 rfl rfl)
      have e1 := rpt_intV (hr 1 _ v1 rfl rfl)
      obtain ⟨m, rfl⟩ : ∃ m : Nat, n = (m : Int) := ⟨n.toNat, by omega⟩
      rw [Int.toNat_natCast] at h2
      subst e0 e1
      refine (Try.strings_Repeat s m w (by omega) (by omega)).mono ?_
      rintro e w' ⟨rfl, hB⟩
      refine ⟨_, S, rfl, hS, .one (.s (.frz ?_)), hW.same hB.size (fun g hg => hB.block g hg), Ext.refl S, .of hB hW.base⟩
      rw [Int.toNat_natCast]
      exact .str _
end Go.Proofs.Ytondenmkhfignaa.Ev
