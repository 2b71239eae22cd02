/- strings.IndexByte and strings.Compare: what the kit's contracts say of them, for the evaluator. -/
import Derived.Test.YtbdpceigmnpoaaaGreatDoorStrS
import Derived.Test.YtbdpceigmnpoaaaGreatDoorStrP
set_option linter.unusedSimpArgs false
set_option linter.unusedVariables false
namespace Go.Proofs.YtbdpceigmnpoaaaGreatDoor.Ev
open Go Go.RowKit

theorem stu_strV {S : Sta} {s : ByteArray} {v : Value} (h : RepV S (.str s) v) : v = .string s := by
  cases h with | one h => cases h with | s h => cases h with | frz h => cases h; rfl
theorem stu_intV {S : Sta} {k : IntKind} {n : Int} {v : Value} (h : RepV S (.int k n) v) : v = .int k n := by
  cases h with | one h => cases h with | s h => cases h with | frz h => cases h; rfl
theorem userIdx {c : CFn} (hb : c.body = .user pIdx) (hcl : c.closed = false) (hsp : c.split = false) (hres : c.res = [.t 0]) : UserOk Tryz.prog 142 c where
  fn := ⟨Tryz.f142, Tryz.func142, by kernel_rfl, by kernel_rfl⟩
  user := ⟨pIdx, hb⟩
  plain := ⟨hcl, hsp⟩
  res := ⟨1, by rw [hres]; rfl, by
    intro p hp args H q hq
    rw [hb] at hp; cases hp
    unfold pIdx at hq
    split at hq
    · cases hq; rfl
    · cases hq⟩
  ok := by
    intro p hp args H vs' H' h S w B vs hS hW hl hr
    rw [hb] at hp; cases hp
    unfold pIdx at h
    split at h
    case h_2 => cases h
    rename_i s n
    cases h
    match vs, hl with
    | [v0, v1], _ =>
      have e0 := stu_strV (hr 0 _ v0 rfl rfl)
      have e1 := stu_intV (hr 1 _ v1 rfl rfl)
      subst e0 e1
      refine (Tryz.strings_IndexByte s n w).mono ?_
      rintro e w' ⟨rfl, rfl⟩
      exact ⟨_, S, rfl, hS, .one (.s (.frz (.int ..))), hW, Ext.refl S, Bel.refl ..⟩
theorem userCmp {c : CFn} (hb : c.body = .user pCmp) (hcl : c.closed = false) (hsp : c.split = false) (hres : c.res = [.t 0]) : UserOk Tryz.prog 222 c where
  fn := ⟨Tryz.f222, Tryz.func222, by kernel_rfl, by kernel_rfl⟩
  user := ⟨pCmp, hb⟩
  plain := ⟨hcl, hsp⟩
  res := ⟨1, by rw [hres]; rfl, by
    intro p hp args H q hq
    rw [hb] at hp; cases hp
    unfold pCmp at hq
    split at hq
    · cases hq; rfl
    · cases hq⟩
  ok := by
    intro p hp args H vs' H' h S w B vs hS hW hl hr
    rw [hb] at hp; cases hp
    unfold pCmp at h
    split at h
    case h_2 => cases h
    rename_i s n
    cases h
    match vs, hl with
    | [v0, v1], _ =>
      have e0 := stu_strV (hr 0 _ v0 rfl rfl)
      have e1 := stu_strV (hr 1 _ v1 rfl rfl)
      subst e0 e1
      refine (Tryz.strings_Compare s n w).mono ?_
      rintro e w' ⟨rfl, rfl⟩
      exact ⟨_, S, rfl, hS, .one (.s (.frz (.int ..))), hW, Ext.refl S, Bel.refl ..⟩
end Go.Proofs.YtbdpceigmnpoaaaGreatDoor.Ev
