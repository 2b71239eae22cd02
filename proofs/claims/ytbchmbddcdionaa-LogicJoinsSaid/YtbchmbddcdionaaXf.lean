/- logic: isLink, held by the kit's walk. -/
import Derived.Test.YtbchmbddcdionaaWf
import Derived.Test.YtbchmbddcdionaaXa
import Derived.Test.YtbchmbddcdionaaXbp
import Derived.Test.YtbchmbddcdionaaXbl
import Derived.Test.YtbchmbddcdionaaXbv
import Derived.Test.YtbchmbddcdionaaXcp
import Derived.Test.YtbchmbddcdionaaXcl
import Derived.Test.YtbchmbddcdionaaXcv
import Derived.Test.YtbchmbddcdionaaXdp
import Derived.Test.YtbchmbddcdionaaXdl
import Derived.Test.YtbchmbddcdionaaXdv
set_option linter.unusedSimpArgs false
set_option linter.unusedVariables false
namespace Go.Proofs.Ytbchmbddcdionaa.Ev
open Go Go.RowKit

theorem calls45 {S : Sta} {w : World} {B : Nat} (hW : WRel S w B) {na nb r : ByteArray} {ka kb c fl : Int} {ta tb : AV} {b : Bool} {x y x' y' : Value} (hx : RepS S ta x) (hx' : RepS S tb x') (h : sem43 ta tb c fl r = some b) :
    Calls Try.prog 45 #[.agg #[.string na, .int .i64 ka, x, y], .agg #[.string nb, .int .i64 kb, x', y'], .agg #[.int .i64 c, .int .i64 fl, .string r]] w fun e w' => e = .returned (.bool b) ∧ Below w.heap.size w w' := by
  unfold sem43 at h
  split at h
  case h_2 => cases h
  rename_i l l'
  have hf := lst_inv hx
  have hf' := lst_inv hx'
  obtain ⟨a, ca, rfl⟩ := slice_inv hf
  obtain ⟨a', cb, rfl⟩ := slice_inv hf'
  split at h
  · cases h; rename_i hc
    exact Code.v45_low w na nb ka kb fl a a' y y' _ ca _ cb c r hc
  rename_i hc
  obtain ⟨c, rfl⟩ := Int.eq_ofNat_of_zero_le (a := c) (by omega)
  split at h
  · cases h; rename_i hn
    exact Code.v45_high w na nb ka kb fl a a' y y' _ ca _ cb c r hc hn
  rename_i hn
  split at h
  · cases h; rename_i hr
    simp only [not_or] at hr
    exact Code.v45_rule w na nb ka kb fl a a' y y' _ ca _ cb c r hc (by simpa using hn) (by simpa using hr.1) (by simpa using hr.2.1) (by simpa using hr.2.2)
  rename_i hr
  have hr : r = ⟨#[80]⟩ ∨ r = ⟨#[76]⟩ ∨ r = ⟨#[86]⟩ := by
    have := Classical.not_not.1 hr
    rcases this with e | e | e
    · exact .inl (data_ext (Array.toList_inj.1 (by rw [← toList_eq, e])))
    · exact .inr (.inl (data_ext (Array.toList_inj.1 (by rw [← toList_eq, e]))))
    · exact .inr (.inr (data_ext (Array.toList_inj.1 (by rw [← toList_eq, e]))))
  have hn := Classical.not_not.1 hn
  split at h
  case h_2 => cases h
  rename_i nm b1 mn b3 fs a5 a6 a7 nm' e1 e2 e3 rs key e6 e7 hj hj'
  obtain ⟨ga, oa, ca', e, hga, hca⟩ := RepF.row hW hf hj
  obtain ⟨gb, ob, cb', e', hgb, hcb⟩ := RepF.row hW hf' hj'
  cases e; cases e'
  obtain ⟨⟨ha0, ha1, ha2, ha3⟩, ⟨ha5, ha6, ha7⟩, u, ha4, hu⟩ := ty_cells hca
  obtain ⟨⟨hb0, hb1, hb2, hb3⟩, ⟨hb5, hb6, hb7⟩, u', hb4, hu'⟩ := ty_cells hcb
  have hm : (0 : Int) < (l'.length : Int) := by
    have := (List.getElem?_eq_some_iff.1 hj').1
    omega
  obtain ⟨xf, pc, rfl⟩ := slice_inv hu
  obtain ⟨xr, qc, rfl⟩ := slice_inv hu'
  simp only [List.length_cons, List.length_nil, Nat.zero_mul, Nat.add_zero, Int.toNat_natCast, Nat.zero_add, Nat.reduceAdd] at ha0 ha1 ha2 ha3 ha4 ha5 ha6 ha7 hb0 hb1 hb2 hb3 hb4 hb5 hb6 hb7
  split at h
  · cases h; rename_i hfl
    rcases hr with rfl | rfl | rfl
    · exact Code.v45_neg_p (w := w) (hc := hc) (hn := hn) (hm := hm) (ha0 := ha0) (ha1 := ha1) (ha2 := ha2) (ha3 := ha3) (ha4 := ha4) (ha5 := ha5) (ha6 := ha6) (ha7 := ha7) (hb0 := hb0) (hb1 := hb1) (hb2 := hb2) (hb3 := hb3) (hb4 := hb4) (hb5 := hb5) (hb6 := hb6) (hb7 := hb7) (hga := hga) (hgb := hgb) (hfl := hfl) (na := na) (nb := nb) (ka := ka) (kb := kb) (sa := y) (sb := y') (ca := ca) (cb := cb)
    · exact Code.v45_neg_l (w := w) (hc := hc) (hn := hn) (hm := hm) (ha0 := ha0) (ha1 := ha1) (ha2 := ha2) (ha3 := ha3) (ha4 := ha4) (ha5 := ha5) (ha6 := ha6) (ha7 := ha7) (hb0 := hb0) (hb1 := hb1) (hb2 := hb2) (hb3 := hb3) (hb4 := hb4) (hb5 := hb5) (hb6 := hb6) (hb7 := hb7) (hga := hga) (hgb := hgb) (hfl := hfl) (na := na) (nb := nb) (ka := ka) (kb := kb) (sa := y) (sb := y') (ca := ca) (cb := cb)
    · exact Code.v45_neg_v (w := w) (hc := hc) (hn := hn) (hm := hm) (ha0 := ha0) (ha1 := ha1) (ha2 := ha2) (ha3 := ha3) (ha4 := ha4) (ha5 := ha5) (ha6 := ha6) (ha7 := ha7) (hb0 := hb0) (hb1 := hb1) (hb2 := hb2) (hb3 := hb3) (hb4 := hb4) (hb5 := hb5) (hb6 := hb6) (hb7 := hb7) (hga := hga) (hgb := hgb) (hfl := hfl) (na := na) (nb := nb) (ka := ka) (kb := kb) (sa := y) (sb := y') (ca := ca) (cb := cb)
  rename_i hfl
  obtain ⟨fl, rfl⟩ := Int.eq_ofNat_of_zero_le (a := fl) (by omega)
  split at h
  · cases h; rename_i hfl
    rcases hr with rfl | rfl | rfl
    · exact Code.v45_far_p (w := w) (hc := hc) (hn := hn) (hm := hm) (ha0 := ha0) (ha1 := ha1) (ha2 := ha2) (ha3 := ha3) (ha4 := ha4) (ha5 := ha5) (ha6 := ha6) (ha7 := ha7) (hb0 := hb0) (hb1 := hb1) (hb2 := hb2) (hb3 := hb3) (hb4 := hb4) (hb5 := hb5) (hb6 := hb6) (hb7 := hb7) (hga := hga) (hgb := hgb) (hfl := hfl) (na := na) (nb := nb) (ka := ka) (kb := kb) (sa := y) (sb := y') (ca := ca) (cb := cb)
    · exact Code.v45_far_l (w := w) (hc := hc) (hn := hn) (hm := hm) (ha0 := ha0) (ha1 := ha1) (ha2 := ha2) (ha3 := ha3) (ha4 := ha4) (ha5 := ha5) (ha6 := ha6) (ha7 := ha7) (hb0 := hb0) (hb1 := hb1) (hb2 := hb2) (hb3 := hb3) (hb4 := hb4) (hb5 := hb5) (hb6 := hb6) (hb7 := hb7) (hga := hga) (hgb := hgb) (hfl := hfl) (na := na) (nb := nb) (ka := ka) (kb := kb) (sa := y) (sb := y') (ca := ca) (cb := cb)
    · exact Code.v45_far_v (w := w) (hc := hc) (hn := hn) (hm := hm) (ha0 := ha0) (ha1 := ha1) (ha2 := ha2) (ha3 := ha3) (ha4 := ha4) (ha5 := ha5) (ha6 := ha6) (ha7 := ha7) (hb0 := hb0) (hb1 := hb1) (hb2 := hb2) (hb3 := hb3) (hb4 := hb4) (hb5 := hb5) (hb6 := hb6) (hb7 := hb7) (hga := hga) (hgb := hgb) (hfl := hfl) (na := na) (nb := nb) (ka := ka) (kb := kb) (sa := y) (sb := y') (ca := ca) (cb := cb)
  rename_i hfl
  have hfl := Classical.not_not.1 hfl
  split at h
  · cases h
  rename_i hky
  obtain ⟨key, rfl⟩ := Int.eq_ofNat_of_zero_le (a := key) (by omega)
  split at h
  case h_2 => cases h
  rename_i fn fa fb rn ra rb hj2 hj3
  obtain ⟨gf, uf, pc', e, hgf, hcf⟩ := RepF.row hW hu hj2
  obtain ⟨gr, ur, qc', e', hgr, hcr⟩ := RepF.row hW hu' hj3
  cases e; cases e'
  obtain ⟨hf0, hf1, hf2⟩ := fd_cells hcf
  obtain ⟨hr0, hr1, hr2⟩ := fd_cells hcr
  have hky : (key : Int) < (rs.length : Int) := by
    have := (List.getElem?_eq_some_iff.1 hj3).1
    simp only [Int.toNat_natCast] at this
    omega
  simp only [List.length_cons, List.length_nil, Nat.zero_mul, Nat.add_zero, Int.toNat_natCast, Nat.zero_add, Nat.reduceAdd] at hf0 hf1 hf2 hr0 hr1 hr2
  have hs : IntKind.i64.wrap (fa + fb) = wrap64 (fa + fb) := IntWalk.i64_left _
  split at h
  · cases h; rename_i h2
    rcases hr with rfl | rfl | rfl
    · exact Code.v45_fit_p (w := w) (hc := hc) (hn := hn) (hm := hm) (ha0 := ha0) (ha1 := ha1) (ha2 := ha2) (ha3 := ha3) (ha4 := ha4) (ha5 := ha5) (ha6 := ha6) (ha7 := ha7) (hb0 := hb0) (hb1 := hb1) (hb2 := hb2) (hb3 := hb3) (hb4 := hb4) (hb5 := hb5) (hb6 := hb6) (hb7 := hb7) (hga := hga) (hgb := hgb) (hf0 := hf0) (hf1 := hf1) (hf2 := hf2) (hr0 := hr0) (hr1 := hr1) (hr2 := hr2) (hgf := hgf) (hgr := hgr) (hfl := hfl) (hky := hky) (hs := hs) (hs2 := rfl) (h2 := h2) (na := na) (nb := nb) (ka := ka) (kb := kb) (sa := y) (sb := y') (ca := ca) (cb := cb)
    · exact Code.v45_fit_l (w := w) (hc := hc) (hn := hn) (hm := hm) (ha0 := ha0) (ha1 := ha1) (ha2 := ha2) (ha3 := ha3) (ha4 := ha4) (ha5 := ha5) (ha6 := ha6) (ha7 := ha7) (hb0 := hb0) (hb1 := hb1) (hb2 := hb2) (hb3 := hb3) (hb4 := hb4) (hb5 := hb5) (hb6 := hb6) (hb7 := hb7) (hga := hga) (hgb := hgb) (hf0 := hf0) (hf1 := hf1) (hf2 := hf2) (hr0 := hr0) (hr1 := hr1) (hr2 := hr2) (hgf := hgf) (hgr := hgr) (hfl := hfl) (hky := hky) (hs := hs) (hs2 := rfl) (h2 := h2) (na := na) (nb := nb) (ka := ka) (kb := kb) (sa := y) (sb := y') (ca := ca) (cb := cb)
    · exact Code.v45_fit_v (w := w) (hc := hc) (hn := hn) (hm := hm) (ha0 := ha0) (ha1 := ha1) (ha2 := ha2) (ha3 := ha3) (ha4 := ha4) (ha5 := ha5) (ha6 := ha6) (ha7 := ha7) (hb0 := hb0) (hb1 := hb1) (hb2 := hb2) (hb3 := hb3) (hb4 := hb4) (hb5 := hb5) (hb6 := hb6) (hb7 := hb7) (hga := hga) (hgb := hgb) (hf0 := hf0) (hf1 := hf1) (hf2 := hf2) (hr0 := hr0) (hr1 := hr1) (hr2 := hr2) (hgf := hgf) (hgr := hgr) (hfl := hfl) (hky := hky) (hs := hs) (hs2 := rfl) (h2 := h2) (na := na) (nb := nb) (ka := ka) (kb := kb) (sa := y) (sb := y') (ca := ca) (cb := cb)
  · cases h; rename_i h2
    rcases hr with rfl | rfl | rfl
    · exact Code.v45_not_p (w := w) (hc := hc) (hn := hn) (hm := hm) (ha0 := ha0) (ha1 := ha1) (ha2 := ha2) (ha3 := ha3) (ha4 := ha4) (ha5 := ha5) (ha6 := ha6) (ha7 := ha7) (hb0 := hb0) (hb1 := hb1) (hb2 := hb2) (hb3 := hb3) (hb4 := hb4) (hb5 := hb5) (hb6 := hb6) (hb7 := hb7) (hga := hga) (hgb := hgb) (hf0 := hf0) (hf1 := hf1) (hf2 := hf2) (hr0 := hr0) (hr1 := hr1) (hr2 := hr2) (hgf := hgf) (hgr := hgr) (hfl := hfl) (hky := hky) (hs := hs) (hs2 := rfl) (h2 := h2) (h3 := Int.not_le.1 h2) (h4 := decide_eq_false h2) (na := na) (nb := nb) (ka := ka) (kb := kb) (sa := y) (sb := y') (ca := ca) (cb := cb)
    · exact Code.v45_not_l (w := w) (hc := hc) (hn := hn) (hm := hm) (ha0 := ha0) (ha1 := ha1) (ha2 := ha2) (ha3 := ha3) (ha4 := ha4) (ha5 := ha5) (ha6 := ha6) (ha7 := ha7) (hb0 := hb0) (hb1 := hb1) (hb2 := hb2) (hb3 := hb3) (hb4 := hb4) (hb5 := hb5) (hb6 := hb6) (hb7 := hb7) (hga := hga) (hgb := hgb) (hf0 := hf0) (hf1 := hf1) (hf2 := hf2) (hr0 := hr0) (hr1 := hr1) (hr2 := hr2) (hgf := hgf) (hgr := hgr) (hfl := hfl) (hky := hky) (hs := hs) (hs2 := rfl) (h2 := h2) (h3 := Int.not_le.1 h2) (h4 := decide_eq_false h2) (na := na) (nb := nb) (ka := ka) (kb := kb) (sa := y) (sb := y') (ca := ca) (cb := cb)
    · exact Code.v45_not_v (w := w) (hc := hc) (hn := hn) (hm := hm) (ha0 := ha0) (ha1 := ha1) (ha2 := ha2) (ha3 := ha3) (ha4 := ha4) (ha5 := ha5) (ha6 := ha6) (ha7 := ha7) (hb0 := hb0) (hb1 := hb1) (hb2 := hb2) (hb3 := hb3) (hb4 := hb4) (hb5 := hb5) (hb6 := hb6) (hb7 := hb7) (hga := hga) (hgb := hgb) (hf0 := hf0) (hf1 := hf1) (hf2 := hf2) (hr0 := hr0) (hr1 := hr1) (hr2 := hr2) (hgf := hgf) (hgr := hgr) (hfl := hfl) (hky := hky) (hs := hs) (hs2 := rfl) (h2 := h2) (h3 := Int.not_le.1 h2) (h4 := decide_eq_false h2) (na := na) (nb := nb) (ka := ka) (kb := kb) (sa := y) (sb := y') (ca := ca) (cb := cb)
end Go.Proofs.Ytbchmbddcdionaa.Ev
