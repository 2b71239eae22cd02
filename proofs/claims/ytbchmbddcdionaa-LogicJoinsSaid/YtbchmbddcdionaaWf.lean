/- logic: valid, held by the kit's walk. -/
import Derived.Test.YtbchmbddcdionaaWe
import Derived.Test.YtbchmbddcdionaaEvU
import Derived.Test.YtbchmbddcdionaaWa
import Derived.Test.YtbchmbddcdionaaWbp
import Derived.Test.YtbchmbddcdionaaWbl
import Derived.Test.YtbchmbddcdionaaWbv
import Derived.Test.YtbchmbddcdionaaWcp
import Derived.Test.YtbchmbddcdionaaWcl
import Derived.Test.YtbchmbddcdionaaWcv
import Derived.Test.YtbchmbddcdionaaWdp
import Derived.Test.YtbchmbddcdionaaWdl
import Derived.Test.YtbchmbddcdionaaWdv
set_option linter.unusedSimpArgs false
set_option linter.unusedVariables false
namespace Go.Proofs.Ytbchmbddcdionaa.Ev
open Go Go.RowKit

theorem agg_inv {S : Sta} {cs : List AV} {v : Value} (h : RepV S (.agg cs) v) : ∃ vs : List Value, v = .agg vs.toArray ∧ RepL S cs vs := by
  cases h with
  | one h => cases h with
    | s h => cases h with
      | frz h => cases h
    | agg _ vs h => exact ⟨vs, rfl, h⟩
theorem lst_inv {S : Sta} {l : List (List AV)} {v : Value} (h : RepS S (.lst l) v) : RepF S.M (.lst l) v := by
  cases h with
  | frz h => exact h
theorem int_inv {M : Mem} {k : IntKind} {n : Int} {v : Value} (h : RepF M (.int k n) v) : v = .int k n := by cases h; rfl
theorem str_inv {M : Mem} {s : ByteArray} {v : Value} (h : RepF M (.str s) v) : v = .string s := by cases h; rfl
theorem bool_inv {M : Mem} {b : Bool} {v : Value} (h : RepF M (.bool b) v) : v = .bool b := by cases h; rfl
theorem intS_inv {S : Sta} {k : IntKind} {n : Int} {v : Value} (h : RepS S (.int k n) v) : v = .int k n := by
  cases h with
  | frz h => exact int_inv h
theorem strS_inv {S : Sta} {s : ByteArray} {v : Value} (h : RepS S (.str s) v) : v = .string s := by
  cases h with
  | frz h => exact str_inv h
theorem slice_inv {M : Mem} {l : List (List AV)} {v : Value} (h : RepF M (.lst l) v) : ∃ a cap, v = .slice a l.length cap := by
  cases h with
  | lst0 a cap h => exact ⟨a, cap, rfl⟩
  | lst _ g off sz cap => exact ⟨_, cap, rfl⟩
theorem base_inv {S : Sta} {n : ByteArray} {k : Int} {ta sa : AV} {v : Value} (h : RepV S (.agg [.str n, .int .i64 k, ta, sa]) v) :
    ∃ x y, v = .agg #[.string n, .int .i64 k, x, y] ∧ RepS S ta x := by
  obtain ⟨vs, rfl, hl, hr⟩ := agg_inv h
  match vs, hl with
  | [v0, v1, v2, v3], _ =>
    have h0 := strS_inv (hr 0 _ _ rfl rfl)
    have h1 := intS_inv (hr 1 _ _ rfl rfl)
    exact ⟨v2, v3, by rw [h0, h1], hr 2 _ _ rfl rfl⟩
theorem link_inv {S : Sta} {c fl : Int} {r : ByteArray} {v : Value} (h : RepV S (.agg [.int .i64 c, .int .i64 fl, .str r]) v) :
    v = .agg #[.int .i64 c, .int .i64 fl, .string r] := by
  obtain ⟨vs, rfl, hl, hr⟩ := agg_inv h
  match vs, hl with
  | [v0, v1, v2], _ => rw [intS_inv (hr 0 _ _ rfl rfl), intS_inv (hr 1 _ _ rfl rfl), strS_inv (hr 2 _ _ rfl rfl)]
theorem ty_cells {M : Mem} {w : World} {g o : Nat} {nm : ByteArray} {a1 a2 a3 a5 : Int} {a6 a7 : Bool} {fs : AV}
    (hc : ∀ k x, [AV.str nm, .int .i64 a1, .int .i64 a2, .int .i64 a3, fs, .int .i64 a5, .bool a6, .bool a7][k]? = some x → ∃ u, w.cell? ⟨g, o + k, none⟩ = some u ∧ RepF M x u) :
    (w.cell? ⟨g, o, none⟩ = some (.string nm) ∧ w.cell? ⟨g, o + 1, none⟩ = some (.int .i64 a1) ∧ w.cell? ⟨g, o + 2, none⟩ = some (.int .i64 a2) ∧ w.cell? ⟨g, o + 3, none⟩ = some (.int .i64 a3)) ∧
    (w.cell? ⟨g, o + 5, none⟩ = some (.int .i64 a5) ∧ w.cell? ⟨g, o + 6, none⟩ = some (.bool a6) ∧ w.cell? ⟨g, o + 7, none⟩ = some (.bool a7)) ∧ ∃ y, w.cell? ⟨g, o + 4, none⟩ = some y ∧ RepF M fs y := by
  obtain ⟨u0, c0, r0⟩ := hc 0 _ rfl
  obtain ⟨u1, c1, r1⟩ := hc 1 _ rfl
  obtain ⟨u2, c2, r2⟩ := hc 2 _ rfl
  obtain ⟨u3, c3, r3⟩ := hc 3 _ rfl
  obtain ⟨u4, c4, r4⟩ := hc 4 _ rfl
  obtain ⟨u5, c5, r5⟩ := hc 5 _ rfl
  obtain ⟨u6, c6, r6⟩ := hc 6 _ rfl
  obtain ⟨u7, c7, r7⟩ := hc 7 _ rfl
  rw [str_inv r0] at c0; rw [int_inv r1] at c1; rw [int_inv r2] at c2; rw [int_inv r3] at c3; rw [int_inv r5] at c5; rw [bool_inv r6] at c6; rw [bool_inv r7] at c7
  exact ⟨⟨c0, c1, c2, c3⟩, ⟨c5, c6, c7⟩, u4, c4, r4⟩
theorem fd_cells {M : Mem} {w : World} {g o : Nat} {nm : ByteArray} {a1 a2 : Int}
    (hc : ∀ k x, [AV.str nm, .int .i64 a1, .int .i64 a2][k]? = some x → ∃ u, w.cell? ⟨g, o + k, none⟩ = some u ∧ RepF M x u) :
    w.cell? ⟨g, o, none⟩ = some (.string nm) ∧ w.cell? ⟨g, o + 1, none⟩ = some (.int .i64 a1) ∧ w.cell? ⟨g, o + 2, none⟩ = some (.int .i64 a2) := by
  obtain ⟨u0, c0, r0⟩ := hc 0 _ rfl
  obtain ⟨u1, c1, r1⟩ := hc 1 _ rfl
  obtain ⟨u2, c2, r2⟩ := hc 2 _ rfl
  rw [str_inv r0] at c0; rw [int_inv r1] at c1; rw [int_inv r2] at c2
  exact ⟨c0, c1, c2⟩
theorem calls43 {S : Sta} {w : World} {B : Nat} (hW : WRel S w B) {na nb r : ByteArray} {ka kb c fl : Int} {ta tb : AV} {b : Bool} {x y x' y' : Value} (hx : RepS S ta x) (hx' : RepS S tb x') (h : sem43 ta tb c fl r = some b) :
    Calls Try.prog 43 #[.agg #[.string na, .int .i64 ka, x, y], .agg #[.string nb, .int .i64 kb, x', y'], .agg #[.int .i64 c, .int .i64 fl, .string r]] w fun e w' => e = .returned (.bool b) ∧ Below w.heap.size w w' := by
  unfold sem43 at h
  split at h
  case h_2 => cases h
  rename_i l l'
  have hf := lst_inv hx
  have hf' := lst_inv hx'
  obtain ⟨a, ca, rfl⟩ := slice_inv hf
  obtain ⟨a', cb, rfl⟩ := slice_inv hf'
  split at h
  · cases h; rename_i hc
    exact Code.v43_low w na nb ka kb fl a a' y y' _ ca _ cb c r hc
  rename_i hc
  obtain ⟨c, rfl⟩ := Int.eq_ofNat_of_zero_le (a := c) (by omega)
  split at h
  · cases h; rename_i hn
    exact Code.v43_high w na nb ka kb fl a a' y y' _ ca _ cb c r hc hn
  rename_i hn
  split at h
  · cases h; rename_i hr
    simp only [not_or] at hr
    exact Code.v43_rule w na nb ka kb fl a a' y y' _ ca _ cb c r hc (by simpa using hn) (by simpa using hr.1) (by simpa using hr.2.1) (by simpa using hr.2.2)
  rename_i hr
  have hr : r = ⟨#[80]⟩ ∨ r = ⟨#[76]⟩ ∨ r = ⟨#[86]⟩ := by
    have := Classical.not_not.1 hr
    rcases this with e | e | e
    · exact .inl (data_ext (Array.toList_inj.1 (by rw [← toList_eq, e])))
    · exact .inr (.inl (data_ext (Array.toList_inj.1 (by rw [← toList_eq, e]))))
    · exact .inr (.inr (data_ext (Array.toList_inj.1 (by rw [← toList_eq, e]))))
  have hn := Classical.not_not.1 hn
  split at h
  case h_2 => cases h
  rename_i nm b1 mn b3 fs a5 a6 a7 nm' e1 e2 e3 rs key e6 e7 hj hj'
  obtain ⟨ga, oa, ca', e, hga, hca⟩ := RepF.row hW hf hj
  obtain ⟨gb, ob, cb', e', hgb, hcb⟩ := RepF.row hW hf' hj'
  cases e; cases e'
  obtain ⟨⟨ha0, ha1, ha2, ha3⟩, ⟨ha5, ha6, ha7⟩, u, ha4, hu⟩ := ty_cells hca
  obtain ⟨⟨hb0, hb1, hb2, hb3⟩, ⟨hb5, hb6, hb7⟩, u', hb4, hu'⟩ := ty_cells hcb
  have hm : (0 : Int) < (l'.length : Int) := by
    have := (List.getElem?_eq_some_iff.1 hj').1
    omega
  obtain ⟨xf, pc, rfl⟩ := slice_inv hu
  obtain ⟨xr, qc, rfl⟩ := slice_inv hu'
  simp only [List.length_cons, List.length_nil, Nat.zero_mul, Nat.add_zero, Int.toNat_natCast, Nat.zero_add, Nat.reduceAdd] at ha0 ha1 ha2 ha3 ha4 ha5 ha6 ha7 hb0 hb1 hb2 hb3 hb4 hb5 hb6 hb7
  split at h
  · cases h; rename_i hfl
    rcases hr with rfl | rfl | rfl
    · exact Code.v43_neg_p (w := w) (hc := hc) (hn := hn) (hm := hm) (ha0 := ha0) (ha1 := ha1) (ha2 := ha2) (ha3 := ha3) (ha4 := ha4) (ha5 := ha5) (ha6 := ha6) (ha7 := ha7) (hb0 := hb0) (hb1 := hb1) (hb2 := hb2) (hb3 := hb3) (hb4 := hb4) (hb5 := hb5) (hb6 := hb6) (hb7 := hb7) (hga := hga) (hgb := hgb) (hfl := hfl) (na := na) (nb := nb) (ka := ka) (kb := kb) (sa := y) (sb := y') (ca := ca) (cb := cb)
    · exact Code.v43_neg_l (w := w) (hc := hc) (hn := hn) (hm := hm) (ha0 := ha0) (ha1 := ha1) (ha2 := ha2) (ha3 := ha3) (ha4 := ha4) (ha5 := ha5) (ha6 := ha6) (ha7 := ha7) (hb0 := hb0) (hb1 := hb1) (hb2 := hb2) (hb3 := hb3) (hb4 := hb4) (hb5 := hb5) (hb6 := hb6) (hb7 := hb7) (hga := hga) (hgb := hgb) (hfl := hfl) (na := na) (nb := nb) (ka := ka) (kb := kb) (sa := y) (sb := y') (ca := ca) (cb := cb)
    · exact Code.v43_neg_v (w := w) (hc := hc) (hn := hn) (hm := hm) (ha0 := ha0) (ha1 := ha1) (ha2 := ha2) (ha3 := ha3) (ha4 := ha4) (ha5 := ha5) (ha6 := ha6) (ha7 := ha7) (hb0 := hb0) (hb1 := hb1) (hb2 := hb2) (hb3 := hb3) (hb4 := hb4) (hb5 := hb5) (hb6 := hb6) (hb7 := hb7) (hga := hga) (hgb := hgb) (hfl := hfl) (na := na) (nb := nb) (ka := ka) (kb := kb) (sa := y) (sb := y') (ca := ca) (cb := cb)
  rename_i hfl
  obtain ⟨fl, rfl⟩ := Int.eq_ofNat_of_zero_le (a := fl) (by omega)
  split at h
  · cases h; rename_i hfl
    rcases hr with rfl | rfl | rfl
    · exact Code.v43_far_p (w := w) (hc := hc) (hn := hn) (hm := hm) (ha0 := ha0) (ha1 := ha1) (ha2 := ha2) (ha3 := ha3) (ha4 := ha4) (ha5 := ha5) (ha6 := ha6) (ha7 := ha7) (hb0 := hb0) (hb1 := hb1) (hb2 := hb2) (hb3 := hb3) (hb4 := hb4) (hb5 := hb5) (hb6 := hb6) (hb7 := hb7) (hga := hga) (hgb := hgb) (hfl := hfl) (na := na) (nb := nb) (ka := ka) (kb := kb) (sa := y) (sb := y') (ca := ca) (cb := cb)
    · exact Code.v43_far_l (w := w) (hc := hc) (hn := hn) (hm := hm) (ha0 := ha0) (ha1 := ha1) (ha2 := ha2) (ha3 := ha3) (ha4 := ha4) (ha5 := ha5) (ha6 := ha6) (ha7 := ha7) (hb0 := hb0) (hb1 := hb1) (hb2 := hb2) (hb3 := hb3) (hb4 := hb4) (hb5 := hb5) (hb6 := hb6) (hb7 := hb7) (hga := hga) (hgb := hgb) (hfl := hfl) (na := na) (nb := nb) (ka := ka) (kb := kb) (sa := y) (sb := y') (ca := ca) (cb := cb)
    · exact Code.v43_far_v (w := w) (hc := hc) (hn := hn) (hm := hm) (ha0 := ha0) (ha1 := ha1) (ha2 := ha2) (ha3 := ha3) (ha4 := ha4) (ha5 := ha5) (ha6 := ha6) (ha7 := ha7) (hb0 := hb0) (hb1 := hb1) (hb2 := hb2) (hb3 := hb3) (hb4 := hb4) (hb5 := hb5) (hb6 := hb6) (hb7 := hb7) (hga := hga) (hgb := hgb) (hfl := hfl) (na := na) (nb := nb) (ka := ka) (kb := kb) (sa := y) (sb := y') (ca := ca) (cb := cb)
  rename_i hfl
  have hfl := Classical.not_not.1 hfl
  split at h
  · cases h
  rename_i hky
  obtain ⟨key, rfl⟩ := Int.eq_ofNat_of_zero_le (a := key) (by omega)
  split at h
  case h_2 => cases h
  rename_i fn fa fb rn ra rb hj2 hj3
  obtain ⟨gf, uf, pc', e, hgf, hcf⟩ := RepF.row hW hu hj2
  obtain ⟨gr, ur, qc', e', hgr, hcr⟩ := RepF.row hW hu' hj3
  cases e; cases e'
  obtain ⟨hf0, hf1, hf2⟩ := fd_cells hcf
  obtain ⟨hr0, hr1, hr2⟩ := fd_cells hcr
  have hky : (key : Int) < (rs.length : Int) := by
    have := (List.getElem?_eq_some_iff.1 hj3).1
    simp only [Int.toNat_natCast] at this
    omega
  simp only [List.length_cons, List.length_nil, Nat.zero_mul, Nat.add_zero, Int.toNat_natCast, Nat.zero_add, Nat.reduceAdd] at hf0 hf1 hf2 hr0 hr1 hr2
  have hs : IntKind.i64.wrap (fa + fb) = wrap64 (fa + fb) := IntWalk.i64_left _
  split at h
  · cases h; rename_i h2
    rcases hr with rfl | rfl | rfl
    · exact Code.v43_fit_p (w := w) (hc := hc) (hn := hn) (hm := hm) (ha0 := ha0) (ha1 := ha1) (ha2 := ha2) (ha3 := ha3) (ha4 := ha4) (ha5 := ha5) (ha6 := ha6) (ha7 := ha7) (hb0 := hb0) (hb1 := hb1) (hb2 := hb2) (hb3 := hb3) (hb4 := hb4) (hb5 := hb5) (hb6 := hb6) (hb7 := hb7) (hga := hga) (hgb := hgb) (hf0 := hf0) (hf1 := hf1) (hf2 := hf2) (hr0 := hr0) (hr1 := hr1) (hr2 := hr2) (hgf := hgf) (hgr := hgr) (hfl := hfl) (hky := hky) (hs := hs) (hs2 := rfl) (h2 := h2) (na := na) (nb := nb) (ka := ka) (kb := kb) (sa := y) (sb := y') (ca := ca) (cb := cb)
    · exact Code.v43_fit_l (w := w) (hc := hc) (hn := hn) (hm := hm) (ha0 := ha0) (ha1 := ha1) (ha2 := ha2) (ha3 := ha3) (ha4 := ha4) (ha5 := ha5) (ha6 := ha6) (ha7 := ha7) (hb0 := hb0) (hb1 := hb1) (hb2 := hb2) (hb3 := hb3) (hb4 := hb4) (hb5 := hb5) (hb6 := hb6) (hb7 := hb7) (hga := hga) (hgb := hgb) (hf0 := hf0) (hf1 := hf1) (hf2 := hf2) (hr0 := hr0) (hr1 := hr1) (hr2 := hr2) (hgf := hgf) (hgr := hgr) (hfl := hfl) (hky := hky) (hs := hs) (hs2 := rfl) (h2 := h2) (na := na) (nb := nb) (ka := ka) (kb := kb) (sa := y) (sb := y') (ca := ca) (cb := cb)
    · exact Code.v43_fit_v (w := w) (hc := hc) (hn := hn) (hm := hm) (ha0 := ha0) (ha1 := ha1) (ha2 := ha2) (ha3 := ha3) (ha4 := ha4) (ha5 := ha5) (ha6 := ha6) (ha7 := ha7) (hb0 := hb0) (hb1 := hb1) (hb2 := hb2) (hb3 := hb3) (hb4 := hb4) (hb5 := hb5) (hb6 := hb6) (hb7 := hb7) (hga := hga) (hgb := hgb) (hf0 := hf0) (hf1 := hf1) (hf2 := hf2) (hr0 := hr0) (hr1 := hr1) (hr2 := hr2) (hgf := hgf) (hgr := hgr) (hfl := hfl) (hky := hky) (hs := hs) (hs2 := rfl) (h2 := h2) (na := na) (nb := nb) (ka := ka) (kb := kb) (sa := y) (sb := y') (ca := ca) (cb := cb)
  · cases h; rename_i h2
    rcases hr with rfl | rfl | rfl
    · exact Code.v43_not_p (w := w) (hc := hc) (hn := hn) (hm := hm) (ha0 := ha0) (ha1 := ha1) (ha2 := ha2) (ha3 := ha3) (ha4 := ha4) (ha5 := ha5) (ha6 := ha6) (ha7 := ha7) (hb0 := hb0) (hb1 := hb1) (hb2 := hb2) (hb3 := hb3) (hb4 := hb4) (hb5 := hb5) (hb6 := hb6) (hb7 := hb7) (hga := hga) (hgb := hgb) (hf0 := hf0) (hf1 := hf1) (hf2 := hf2) (hr0 := hr0) (hr1 := hr1) (hr2 := hr2) (hgf := hgf) (hgr := hgr) (hfl := hfl) (hky := hky) (hs := hs) (hs2 := rfl) (h2 := h2) (h3 := Int.not_le.1 h2) (h4 := decide_eq_false h2) (na := na) (nb := nb) (ka := ka) (kb := kb) (sa := y) (sb := y') (ca := ca) (cb := cb)
    · exact Code.v43_not_l (w := w) (hc := hc) (hn := hn) (hm := hm) (ha0 := ha0) (ha1 := ha1) (ha2 := ha2) (ha3 := ha3) (ha4 := ha4) (ha5 := ha5) (ha6 := ha6) (ha7 := ha7) (hb0 := hb0) (hb1 := hb1) (hb2 := hb2) (hb3 := hb3) (hb4 := hb4) (hb5 := hb5) (hb6 := hb6) (hb7 := hb7) (hga := hga) (hgb := hgb) (hf0 := hf0) (hf1 := hf1) (hf2 := hf2) (hr0 := hr0) (hr1 := hr1) (hr2 := hr2) (hgf := hgf) (hgr := hgr) (hfl := hfl) (hky := hky) (hs := hs) (hs2 := rfl) (h2 := h2) (h3 := Int.not_le.1 h2) (h4 := decide_eq_false h2) (na := na) (nb := nb) (ka := ka) (kb := kb) (sa := y) (sb := y') (ca := ca) (cb := cb)
    · exact Code.v43_not_v (w := w) (hc := hc) (hn := hn) (hm := hm) (ha0 := ha0) (ha1 := ha1) (ha2 := ha2) (ha3 := ha3) (ha4 := ha4) (ha5 := ha5) (ha6 := ha6) (ha7 := ha7) (hb0 := hb0) (hb1 := hb1) (hb2 := hb2) (hb3 := hb3) (hb4 := hb4) (hb5 := hb5) (hb6 := hb6) (hb7 := hb7) (hga := hga) (hgb := hgb) (hf0 := hf0) (hf1 := hf1) (hf2 := hf2) (hr0 := hr0) (hr1 := hr1) (hr2 := hr2) (hgf := hgf) (hgr := hgr) (hfl := hfl) (hky := hky) (hs := hs) (hs2 := rfl) (h2 := h2) (h3 := Int.not_le.1 h2) (h4 := decide_eq_false h2) (na := na) (nb := nb) (ka := ka) (kb := kb) (sa := y) (sb := y') (ca := ca) (cb := cb)
end Go.Proofs.Ytbchmbddcdionaa.Ev
