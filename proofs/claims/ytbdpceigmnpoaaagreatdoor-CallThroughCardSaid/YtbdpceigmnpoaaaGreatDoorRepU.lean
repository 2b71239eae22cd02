/- strings.ReplaceAll: what the kit's contract says of it, for the evaluator. -/
import Derived.Test.YtbdpceigmnpoaaaGreatDoorShelf
import Derived.Test.YtbdpceigmnpoaaaGreatDoorRepP
set_option linter.unusedSimpArgs false
set_option linter.unusedVariables false
namespace Go.Proofs.YtbdpceigmnpoaaaGreatDoor.Ev
open Go Go.RowKit

theorem rep_strV {S : Sta} {s : ByteArray} {v : Value} (h : RepV S (.str s) v) : v = .string s := by
  cases h with | one h => cases h with | s h => cases h with | frz h => cases h; rfl
theorem userRepl {c : CFn} (hb : c.body = .user pRepl) (hcl : c.closed = false) (hsp : c.split = false) (hres : c.res = [.t 0]) : UserOk Tryz.prog 143 c where
  fn := ⟨Tryz.f143, Tryz.func143, by kernel_rfl, by kernel_rfl⟩
  user := ⟨pRepl, hb⟩
  plain := ⟨hcl, hsp⟩
  res := ⟨1, by rw [hres]; rfl, by
    intro p hp args H q hq
    rw [hb] at hp; cases hp
    unfold pRepl at hq
    split at hq
    · split at hq
      · cases hq; rfl
      · cases hq
    · cases hq⟩
  ok := by
    intro p hp args H vs' H' h S w B vs hS hW hl hr
    rw [hb] at hp; cases hp
    unfold pRepl at h
    split at h
    case h_2 => cases h
    rename_i s o n
    split at h
    case isFalse => cases h
    rename_i hc
    obtain ⟨h1, h2, hsz⟩ := hc
    cases h
    match vs, hl with
    | [v0, v1, v2], _ =>
      have e0 := rep_strV (hr 0 _ v0 rfl rfl)
      have e1 := rep_strV (hr 1 _ v1 rfl rfl)
      have e2 := rep_strV (hr 2 _ v2 rfl rfl)
      subst e0 e1 e2
      obtain ⟨m, hm⟩ := hW.glob
      obtain ⟨e, fr, he⟩ := hW.mem 0 _ hm
      have hcell : w.cell? ⟨0, 0, none⟩ = some (.int .i64 m) := by simp [World.cell?, he]
      have hs1 : o.size = 1 := by show o.data.size = 1; rw [h1]; rfl
      have hs2 : n.size = 2 := by show n.data.size = 2; rw [h2]; rfl
      refine (Tryz.strings_ReplaceAll s o n m w (by omega) hcell (by omega) ?_).mono ?_
      · have : Lib.countB s o ≤ s.size + 1 := by
          have := Lib.count_le s.data.toList o.data.toList
          rw [show s.data.toList.length = s.size from Array.length_toList] at this
          exact this
        rw [hs2]; omega
      · rintro e w' ⟨rfl, hB⟩
        refine ⟨_, S, rfl, hS, .one (.s (.frz ?_)), hW.same hB.size (fun g hg => hB.block g hg), Ext.refl S, .of hB hW.base⟩
        rw [h1, h2, replaceAll_esc]
        exact .str _
end Go.Proofs.YtbdpceigmnpoaaaGreatDoor.Ev
