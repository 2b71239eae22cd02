/- logic: isLink as a function held by a proof of its own. -/
import Derived.Test.YtbchmbddcdionaaXf
set_option linter.unusedSimpArgs false
set_option linter.unusedVariables false
namespace Go.Proofs.Ytbchmbddcdionaa.Ev
open Go Go.RowKit

theorem user45 {c : CFn} (hb : c.body = .user p43) (hcl : c.closed = false) (hsp : c.split = false) (hres : c.res = [.t 0]) : UserOk Try.prog 45 c where
  fn := ⟨Try.f45, Try.func45, by kernel_rfl, by kernel_rfl⟩
  user := ⟨p43, hb⟩
  plain := ⟨hcl, hsp⟩
  res := ⟨1, by rw [hres]; rfl, by
    intro p hp args H q hq
    rw [hb] at hp; cases hp
    unfold p43 at hq
    split at hq
    · cases hs : sem43 _ _ _ _ _ with
      | none => rw [hs] at hq; cases hq
      | some b => rw [hs] at hq; cases hq; rfl
    · cases hq⟩
  ok := by
    intro p hp args H vs' H' h S w B vs hS hW hl hr
    rw [hb] at hp; cases hp
    unfold p43 at h
    split at h
    case h_2 => cases h
    cases hs : sem43 _ _ _ _ _ with
    | none => rw [hs] at h; cases h
    | some b =>
      rw [hs] at h; cases h
      match vs, hl with
      | [v0, v1, v2], _ =>
        obtain ⟨x, y, rfl, hx⟩ := base_inv (hr 0 _ _ rfl rfl)
        obtain ⟨x', y', rfl, hx'⟩ := base_inv (hr 1 _ _ rfl rfl)
        have h2 := link_inv (hr 2 _ _ rfl rfl)
        subst h2
        refine (calls45 hW hx hx' hs).mono ?_
        rintro e w' ⟨rfl, hB⟩
        exact ⟨_, S, rfl, hS, .one (.s (.frz (.bool b))), hW.same hB.size (fun g hg => hB.block g hg), Ext.refl S, hB.mono hW.base⟩
end Go.Proofs.Ytbchmbddcdionaa.Ev
