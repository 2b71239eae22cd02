/- Texts of ours, joined into one file; each begins with its own remark. -/
import Derived.Test.YtbchmbddcdionaaU2
/- plain: a forest with a new item is a forest (mathematics). -/
set_option linter.unusedSimpArgs false
set_option linter.unusedVariables false
namespace Go.Proofs.Ytbchmbddcdionaa.Code
open Go.Proofs.Ytbchmbddcdionaa.Ev

theorem pth_pre {ts : List Ty} {f : List Item} {j r : Nat} (hj : j < f.length) (h : (r : Int) ∈ pth ts f j) : (pth ts f j).take (pth ts f r).length = pth ts f r ∧ (pth ts f r).length ≤ (pth ts f j).length := by
  obtain ⟨i, hi⟩ := List.getElem?_of_mem h
  have hl := (List.getElem?_eq_some_iff.1 hi).1
  have ht := take_anc (pts ts f) (good_pts ts f) (by rw [pts_len]; exact Nat.le_refl _) j j (Nat.le_refl _) hj i (r : Int) hi
  rw [Int.toNat_natCast] at ht
  change (pth ts f j).take (i + 1) = pth ts f r at ht
  have hlen : (pth ts f r).length = i + 1 := by rw [← ht, List.length_take]; omega
  rw [hlen]
  exact ⟨ht, by omega⟩
section
variable {b : Base} {f : List Item} {p t : Int} {d : ByteArray} {n : Nat} (S : Spot b f p t d n)
include S
/-- the way of the place begins with the parent's path -/
theorem Spot.pre : (Code.way b.types f n).take (pthI b.types f p).length = pthI b.types f p := by
  have hg := S.gt
  by_cases h0 : p < 0
  · rw [pthI_neg _ _ h0]; rfl
  · obtain ⟨u, hu⟩ : ∃ u : Nat, p = (u : Int) := ⟨p.toNat, by omega⟩
    have hm := S.way hu
    obtain ⟨m, hm1⟩ : ∃ m, n = m + 1 := ⟨n - 1, by omega⟩
    rw [hu, pthI_nat, hm1]
    change (pth b.types f m).take _ = _
    rw [hm1] at hm
    have hle := S.le
    exact (pth_pre (by omega) hm).1
/-- the way of the place at the depth of the new item -/
theorem Spot.sib : (Code.way b.types f n)[(pthI b.types f p).length]? = none ∨ ∃ c : Nat, (Code.way b.types f n)[(pthI b.types f p).length]? = some (c : Int) ∧ c < f.length ∧ par b.types f c = p ∧ front b f t (keyOf (tyOf b.types t) d) c = true := by
  have hg := S.gt
  rcases S.at' with h | ⟨c, h1, h2, h3, h4⟩
  · left
    by_cases h0 : p < 0
    · have hn0 : n = 0 := by have := S.lo; omega
      rw [hn0]; rfl
    · obtain ⟨u, hu⟩ : ∃ u : Nat, p = (u : Int) := ⟨p.toNat, by omega⟩
      have hnu : n = u + 1 := by omega
      rw [hnu, hu, pthI_nat]
      change (pth b.types f u)[_]? = none
      exact List.getElem?_eq_none (Nat.le_refl _)
  · right
    refine ⟨c, ?_, h1, h2, h4⟩
    have he := endOf_is b.types f h1
    have hlt := he.lt
    have hle := he.le
    obtain ⟨m, hm⟩ : ∃ m, n = m + 1 := ⟨n - 1, by omega⟩
    have mc : (c : Int) ∈ pth b.types f m := by
      by_cases e : m = c
      · rw [e]; exact pth_self ..
      · exact he.all m (by omega) (by omega)
    rw [hm]
    change (pth b.types f m)[_]? = _
    obtain ⟨e1, e2⟩ := pth_pre (by omega) mc
    have hc := pth_eq b.types f h1
    rw [h2] at hc
    have hL : (pth b.types f c).length = (pthI b.types f p).length + 1 := by rw [hc]; simp
    have : ((pth b.types f m).take (pth b.types f c).length)[(pthI b.types f p).length]? = some (c : Int) := by rw [e1, hc]; simp
    rw [List.getElem?_take, if_pos (by omega)] at this
    exact this
/-- the parent of what stands at the place is on the parent's path -/
theorem Spot.next' (hn : n < f.length) {r : Nat} (hr : par b.types f n = (r : Int)) : (r : Int) ∈ pthI b.types f p := by
  have R := S.R
  have hg := S.gt
  have hrn : r < n := by have := par_lt b.types f n; omega
  have mr := way_between (Nat.le_refl _) R.ok n hn (r : Int) (par_mem hn hr) (n - 1) (by omega) (by omega)
  rcases S.at' with h | ⟨c, h1, h2, h3, h4⟩
  · rw [show p = ((n - 1 : Nat) : Int) by omega, pthI_nat]; exact mr
  · have he := endOf_is b.types f h1
    have hlt := he.lt
    have mc : (c : Int) ∈ pth b.types f (n - 1) := by
      by_cases e : n - 1 = c
      · rw [e]; exact pth_self ..
      · exact he.all (n - 1) (by omega) (by omega)
    have hno : (c : Int) ∉ pth b.types f n := by
      have := he.no (by omega)
      rw [← h3] at this
      exact this
    have hrc : r < c := by
      apply Classical.byContradiction
      intro hc
      have := way_between (Nat.le_refl _) R.ok (n - 1) (by omega) (c : Int) mc r (by omega) (by omega)
      exact hno (anc_trans _ (par_mem hn hr) this)
    have mrc := way_between (Nat.le_refl _) R.ok (n - 1) (by omega) (r : Int) mr c (by omega) (by omega)
    obtain ⟨g1, g2⟩ := mem_par h1 mrc (by omega)
    rw [h2] at g1 g2
    obtain ⟨u, hu⟩ : ∃ u : Nat, p = (u : Int) := ⟨p.toNat, by omega⟩
    rw [hu, pthI_nat]
    rw [hu, Int.toNat_natCast] at g2
    exact g2
theorem Spot.pthIx {a : Int} (ha : a = -1 ∨ ∃ q : Nat, a = (q : Int) ∧ q < f.length) : pthI b.types (insX f t d n) (if a < 0 then a else (sg n a.toNat : Int)) = (pthI b.types f a).map fun a => (sg n a.toNat : Int) := by
  rcases ha with rfl | ⟨q, rfl, hq⟩
  · rw [if_pos (by omega), pthI_neg _ _ (by omega), pthI_neg _ _ (by omega)]; rfl
  · rw [if_neg (by omega), Int.toNat_natCast, pthI_nat, pthI_nat, S.pth' q q (Nat.le_refl _) hq]
theorem Spot.sgp : (if p < 0 then p else (sg n p.toNat : Int)) = p := by
  have hg := S.gt
  split
  · rfl
  · rw [sg_lt (by omega)]; omega
theorem Spot.pthN : pth b.types (insX f t d n) n = (pthI b.types f p).map (fun a => (sg n a.toNat : Int)) ++ [(n : Int)] := by
  have hlx := insX_len (t := t) (d := d) S.le
  have hle := S.le
  have h := S.pthIx (a := p) (by
    have := S.lo
    by_cases h0 : p < 0
    · exact .inl (by omega)
    · exact .inr ⟨p.toNat, by omega, by have := S.hi; omega⟩)
  rw [S.sgp] at h
  rw [pth_eq _ _ (by omega), S.parN, h]
theorem Spot.wayX {k : Nat} (hk : k < f.length) (hne : k ≠ n) : Code.way b.types (insX f t d n) (sg n k) = (Code.way b.types f k).map fun a => (sg n a.toNat : Int) := by
  cases k with
  | zero => rw [sg_lt (by omega)]; rfl
  | succ k =>
    have h := S.pth' k k (Nat.le_refl _) (by omega)
    by_cases hkn : k + 1 < n
    · rw [sg_lt hkn]
      rw [sg_lt (by omega)] at h
      exact h
    · rw [sg_ge (by omega)]
      rw [sg_ge (by omega)] at h
      exact h
theorem Spot.wayN : Code.way b.types (insX f t d n) n = (Code.way b.types f n).map fun a => (sg n a.toNat : Int) := by
  have hle := S.le
  obtain ⟨m, hm⟩ | h0 : (∃ m, n = m + 1) ∨ n = 0 := by
    cases n with
    | zero => exact .inr rfl
    | succ m => exact .inl ⟨m, rfl⟩
  · have h := S.pth' m m (Nat.le_refl _) (by omega)
    rw [sg_lt (by omega)] at h
    have ew : ∀ (N : Nat) (g : List Item), N = m + 1 → Code.way b.types g N = pth b.types g m := fun N g h => by subst h; rfl
    have e1 := ew n (insX f t d n) hm
    have e2 := ew n f hm
    rw [e1, e2, h]
  · rw [h0]; rfl
end
end Go.Proofs.Ytbchmbddcdionaa.Code

/- plain: a forest with a new item is a forest, and the item is a leaf (mathematics). -/
set_option linter.unusedSimpArgs false
set_option linter.unusedVariables false
namespace Go.Proofs.Ytbchmbddcdionaa.Code
open Go.Proofs.Ytbchmbddcdionaa.Ev

section
variable {b : Base} {f : List Item} {p t : Int} {d : ByteArray} {n : Nat} (S : Spot b f p t d n)
include S
theorem Spot.ord_old {x : Item} {a : Nat} : ordOk b.types (insX f t d n) (sg n a : Int) x = ordOk b.types f (a : Int) x := by
  unfold ordOk
  rw [typ_old S.le, dat_old S.le]
theorem Spot.ordN {x : Item} (hn : n < f.length) (hx : f[n]? = some x) (hp : par b.types f n = p) : ordOk b.types (insX f t d n) (n : Int) x = true := by
  have hf := S.next hn hp
  have h1 := S.one
  simp only [front, Bool.or_eq_false_iff, Bool.and_eq_false_iff, decide_eq_false_iff_not, typ_at hx] at hf
  obtain ⟨q1, q2⟩ := hf
  have hkx : kKey b f t n = keyOf (tyOf b.types t) x.data := by unfold kKey; rw [dat_at hx]
  simp only [ordOk, typ_at (insX_new S.le), dat_at (insX_new S.le), Bool.or_eq_true, Bool.and_eq_true, decide_eq_true_eq]
  by_cases hlt : t < x.type
  · exact .inl hlt
  · have he : t = x.type := by omega
    refine .inr ⟨he, ?_⟩
    rw [← he]
    rcases q2 with q2 | q2
    · exact absurd he.symm q2
    · rw [hkx] at q2
      obtain ⟨q3, q4⟩ := q2
      have htri := bLt_tri (keyOf (tyOf b.types t) d) (keyOf (tyOf b.types t) x.data)
      rw [q3] at htri
      simp only [Bool.not_false, Bool.or_eq_true, decide_eq_true_eq] at htri
      simp only [inOrd, Bool.or_eq_true, Bool.and_eq_true, decide_eq_true_eq, Bool.not_eq_true']
      rcases htri with h | h
      · exact .inl (.inr h)
      · refine .inr ⟨h, ?_⟩
        cases hu : (tyOf b.types t).unique with
        | false => rfl
        | true => exact absurd (by rw [hkx, h]) (h1 hu n hn hp (by rw [typ_at hx]; exact he.symm))
theorem Spot.ordC {c : Nat} (hc : c < f.length) (hp : par b.types f c = p) (hf : front b f t (keyOf (tyOf b.types t) d) c = true) : ordOk b.types (insX f t d n) (sg n c : Int) ⟨t, d⟩ = true := by
  have h1 := S.one
  rw [S.ord_old]
  simp only [front, Bool.or_eq_true, Bool.and_eq_true, decide_eq_true_eq] at hf
  simp only [ordOk, Bool.or_eq_true, Bool.and_eq_true, decide_eq_true_eq]
  rcases hf with hf | ⟨hf, hk⟩
  · exact .inl hf
  · refine .inr ⟨hf, ?_⟩
    simp only [inOrd, Bool.or_eq_true, Bool.and_eq_true, decide_eq_true_eq, Bool.not_eq_true']
    rcases hk with hk | ⟨hk, _⟩
    · exact .inl (.inr hk)
    · refine .inr ⟨hk, ?_⟩
      cases hu : (tyOf b.types t).unique with
      | false => rfl
      | true => exact absurd hk (h1 hu c hc hp hf)
theorem Spot.okOld {k : Nat} {x : Item} (hx : f[k]? = some x) : okAt b.types (insX f t d n) (sg n k) x = true := by
  have R := S.R
  have hk := (List.getElem?_eq_some_iff.1 hx).1
  have hok := R.ok k x hk hx
  have hle := S.le
  simp only [okAt, Bool.and_eq_true] at hok ⊢
  obtain ⟨⟨hft, hpk⟩, hsb⟩ := hok
  have hpc := S.par' hk
  have hno : nOf b.types (insX f t d n) (sg n k) = nOf b.types f k := by
    unfold nOf
    rcases hpc with ⟨h1, h2⟩ | ⟨q, h1, h2, h3⟩
    · rw [h1, h2, pthI_neg _ _ (by omega), pthI_neg _ _ (by omega)]
    · rw [h1, h3, pthI_nat, pthI_nat, S.pth' q q (Nat.le_refl _) (by omega), List.length_map]
  refine ⟨⟨hft, ?_⟩, ?_⟩
  · rcases hpc with ⟨h1, h2⟩ | ⟨q, h1, h2, h3⟩
    · have hno' : Code.par b.types f k ∉ Code.way b.types f k := fun h => by have := way_bound h; omega
      rw [tell_neg hno', Bool.or_false] at hpk
      rw [hpk]; rfl
    · have hm := ok_par hx (R.ok k x hk hx) (by omega)
      rw [h1] at hm
      rw [h3]
      have : tell ((sg n q : Int) ∈ Code.way b.types (insX f t d n) (sg n k)) = true := by
        refine tell_pos ?_
        by_cases hkn : k = n
        · subst hkn
          rw [sg_ge (Nat.le_refl _)]
          change (sg k q : Int) ∈ pth b.types (insX f t d k) k
          rw [S.pthN]
          exact List.mem_append_left _ (List.mem_map.2 ⟨_, S.next' hk h1, by simp⟩)
        · rw [S.wayX hk hkn]
          exact List.mem_map.2 ⟨_, hm, by simp⟩
      rw [this]; simp
  · unfold sibOk
    rw [hno]
    by_cases hkn : k = n
    · subst hkn
      rw [sg_ge (Nat.le_refl _)]
      change (match (pth b.types (insX f t d k) k)[nOf b.types f k]? with
        | some a => ordOk b.types (insX f t d k) a x
        | none => true) = true
      rw [S.pthN]
      rcases Nat.lt_trichotomy (nOf b.types f k) (pthI b.types f p).length with h | h | h
      · rw [List.getElem?_append_left (by simpa using h), List.getElem?_map]
        have hpre := S.pre
        have e : (pthI b.types f p)[nOf b.types f k]? = (Code.way b.types f k)[nOf b.types f k]? := by
          conv => lhs; rw [← hpre]
          rw [List.getElem?_take, if_pos h]
        rw [e]
        unfold sibOk at hsb
        cases ha : (Code.way b.types f k)[nOf b.types f k]? with
        | none => rfl
        | some a =>
          rw [ha] at hsb
          have hb := way_bound (List.mem_of_getElem? ha)
          obtain ⟨q, rfl⟩ : ∃ q : Nat, a = (q : Int) := ⟨a.toNat, by omega⟩
          simp only [Option.map_some, Int.toNat_natCast]
          rw [S.ord_old]
          exact hsb
      · rw [List.getElem?_append_right (by simp; omega), List.length_map, h, Nat.sub_self]
        simp only [List.getElem?_cons_zero]
        refine S.ordN hk hx ?_
        unfold nOf at h
        rcases hpc with ⟨h1, h2⟩ | ⟨q, h1, h2, h3⟩
        · rw [h1, pthI_neg _ _ (by omega)] at h
          by_cases h0 : p < 0
          · have := S.lo; omega
          · obtain ⟨u, hu⟩ : ∃ u : Nat, p = (u : Int) := ⟨p.toNat, by omega⟩
            rw [hu, pthI_nat] at h
            have := List.length_pos_of_mem (pth_self b.types f u)
            simp at h; omega
        · have hm := S.next' hk h1
          rw [h1]
          by_cases h0 : p < 0
          · rw [pthI_neg _ _ h0] at hm; cases hm
          · obtain ⟨u, hu⟩ : ∃ u : Nat, p = (u : Int) := ⟨p.toNat, by omega⟩
            have hul : u < f.length := by have := S.hi; omega
            rw [h1, hu, pthI_nat, pthI_nat] at h
            rw [hu, pthI_nat] at hm
            obtain ⟨e1, e2⟩ := pth_pre hul hm
            rw [h, List.take_length] at e1
            rw [hu]
            refine pthI_inj (ts := b.types) (f := f) (by omega) (by omega) ?_
            rw [pthI_nat, pthI_nat, e1]
      · rw [List.getElem?_eq_none (by simp; omega)]
    · rw [S.wayX hk hkn, List.getElem?_map]
      unfold sibOk at hsb
      cases ha : (Code.way b.types f k)[nOf b.types f k]? with
      | none => rfl
      | some a =>
        rw [ha] at hsb
        have hb := way_bound (List.mem_of_getElem? ha)
        obtain ⟨q, rfl⟩ : ∃ q : Nat, a = (q : Int) := ⟨a.toNat, by omega⟩
        simp only [Option.map_some, Int.toNat_natCast]
        rw [S.ord_old]
        exact hsb
theorem Spot.okNew : okAt b.types (insX f t d n) n ⟨t, d⟩ = true := by
  have R := S.R
  have hle := S.le
  have hg := S.gt
  simp only [okAt, Bool.and_eq_true]
  refine ⟨⟨S.fit, ?_⟩, ?_⟩
  · rw [S.parN]
    by_cases h0 : p < 0
    · rcases S.typ with ⟨b1, b2⟩ | ⟨b1, b2⟩
      · obtain ⟨k, ty, hk, _, hty, _⟩ := fits_some S.fit
        simp only at hk
        have : ty.parent < 0 := (tys_root R.tys hty).2 (by omega)
        rw [show tpar b.types t = ty.parent by rw [hk, tpar_at hty], decide_eq_true this]; rfl
      · omega
    · obtain ⟨u, hu⟩ : ∃ u : Nat, p = (u : Int) := ⟨p.toNat, by omega⟩
      have hm := S.way hu
      have : tell (p ∈ Code.way b.types (insX f t d n) n) = true := by
        refine tell_pos ?_
        rw [S.wayN]
        refine List.mem_map.2 ⟨p, ?_, by rw [hu, Int.toNat_natCast, sg_lt (by omega)]⟩
        rw [hu]
        obtain ⟨m, hm1⟩ : ∃ m, n = m + 1 := ⟨n - 1, by omega⟩
        rw [hm1] at hm ⊢
        exact hm
      rw [this]; simp
  · unfold sibOk
    have hno : nOf b.types (insX f t d n) n = (pthI b.types f p).length := by
      unfold nOf
      have h := S.pthIx (a := p) (by
        have := S.lo
        by_cases h0 : p < 0
        · exact .inl (by omega)
        · exact .inr ⟨p.toNat, by omega, by have := S.hi; omega⟩)
      rw [S.sgp] at h
      rw [S.parN, h, List.length_map]
    rw [hno, S.wayN, List.getElem?_map]
    rcases S.sib with h | ⟨c, h, h1, h2, h3⟩
    · rw [h]; rfl
    · rw [h]
      simp only [Option.map_some, Int.toNat_natCast]
      exact S.ordC h1 h2 h3
theorem Spot.right (hl : f.length < 200) : Right b (insX f t d n) := by
  refine ⟨S.R.base, S.R.valid, ?_⟩
  unfold forestOk
  rw [decide_eq_true (by rw [insX_len S.le]; omega), Bool.true_and]
  refine tell_pos fun j y hy => ?_
  by_cases hj : j = n
  · subst hj
    rw [insX_new S.le] at hy; cases hy
    exact S.okNew
  · obtain ⟨k, rfl⟩ := sg_of hj
    rw [insX_old S.le] at hy
    exact S.okOld hy
end
end Go.Proofs.Ytbchmbddcdionaa.Code

/- plain: the place of a new item is one place (mathematics). -/
set_option linter.unusedSimpArgs false
set_option linter.unusedVariables false
namespace Go.Proofs.Ytbchmbddcdionaa.Code
open Go.Proofs.Ytbchmbddcdionaa.Ev

/-- ends of children, one behind the other -/
theorem end_rise {b : Base} {f : List Item} (h : Right b f) {p : Int} (hp : -1 ≤ p) {k k' : Nat} (hkk : k < k') (hk' : k' < f.length) (h1 : par b.types f k = p) (h2 : par b.types f k' = p) : endOf b.types f k ≤ k' := by
  apply Classical.byContradiction
  intro hc
  exact (next_child h hp (show k < f.length by omega) h1).1 k' hkk (by omega) h2
theorem fold_case (b : Base) (f : List Item) (t : Int) (s : ByteArray) : ∀ (l : List Nat) (a : Nat), l.foldl (atD b f t s) a = a ∨ ∃ k ∈ l, front b f t s k = true ∧ l.foldl (atD b f t s) a = endOf b.types f k
  | [], a => .inl rfl
  | k :: l, a => by
    rw [List.foldl_cons]
    rcases fold_case b f t s l (atD b f t s a k) with h | ⟨j, h1, h2, h3⟩
    · by_cases hf : front b f t s k = true
      · exact .inr ⟨k, List.mem_cons_self .., hf, by rw [h]; unfold atD; rw [if_pos hf]⟩
      · exact .inl (by rw [h]; unfold atD; rw [if_neg hf])
    · exact .inr ⟨j, List.mem_cons_of_mem _ h1, h2, h3⟩
theorem fold_ge (b : Base) (f : List Item) (t : Int) (s : ByteArray) : ∀ (l : List Nat) (a : Nat), (∀ k ∈ l, a ≤ endOf b.types f k) → l.Pairwise (fun k k' => endOf b.types f k ≤ endOf b.types f k') → a ≤ l.foldl (atD b f t s) a ∧ ∀ k ∈ l, front b f t s k = true → endOf b.types f k ≤ l.foldl (atD b f t s) a
  | [], a, _, _ => ⟨Nat.le_refl _, fun k h => by cases h⟩
  | k :: l, a, h1, h2 => by
    rw [List.pairwise_cons] at h2
    rw [List.foldl_cons]
    have ha : a ≤ atD b f t s a k := by
      unfold atD
      split
      · exact h1 k (List.mem_cons_self ..)
      · exact Nat.le_refl _
    obtain ⟨i1, i2⟩ := fold_ge b f t s l (atD b f t s a k) (fun j hj => by
      unfold atD
      split
      · exact h2.1 j hj
      · exact h1 j (List.mem_cons_of_mem _ hj)) h2.2
    refine ⟨by omega, fun j hj hf => ?_⟩
    rcases List.mem_cons.1 hj with rfl | hj
    · have e : atD b f t s a j = endOf b.types f j := by unfold atD; rw [if_pos hf]
      rw [e] at i1 ⊢
      exact i1
    · exact i2 j hj hf
/-- the place that is found -/
theorem spot_of {b : Base} {f : List Item} {p t : Int} {d : ByteArray} (R : Right b f) (lo : -1 ≤ p) (hi : p < (f.length : Int)) (fit : fits b.types ⟨t, d⟩ = true) (ht : (p < 0 ∧ t = 0) ∨ (0 ≤ p ∧ tpar b.types t = typ f p)) (htw : twice b f p t (keyOf (tyOf b.types t) d) = false) : Spot b f p t d (placeN b f p t d) := by
  have hge := fold_ge b f t (keyOf (tyOf b.types t) d) (chl b f p) (p + 1).toNat (fun k hk => by
    have hm := mem_chTo.1 hk
    have := (endOf_is b.types f hm.1).lt
    have := par_lt b.types f k
    omega) (List.pairwise_iff_getElem.2 fun i j hi hj hij => by
      have hlt := List.pairwise_iff_getElem.1 (chl_rise b f p) i j hi hj hij
      have m1 := mem_chTo.1 (List.getElem_mem hi)
      have m2 := mem_chTo.1 (List.getElem_mem hj)
      have := end_rise R lo hlt m2.1 m1.2 m2.2
      have := (endOf_is b.types f m2.1).lt
      omega)
  have hcs := fold_case b f t (keyOf (tyOf b.types t) d) (chl b f p) (p + 1).toNat
  have hN : placeN b f p t d = (chl b f p).foldl (atD b f t (keyOf (tyOf b.types t) d)) (p + 1).toNat := rfl
  rw [← hN] at hge hcs
  generalize placeN b f p t d = n at *
  refine ⟨R, lo, hi, ?_, ?_, fun hn hp => ?_, fit, ht, fun hu k hk hp hty hkey => ?_⟩
  · rcases hcs with h | ⟨k, h1, h2, h3⟩
    · omega
    · rw [h3]; exact (endOf_is b.types f (mem_chTo.1 h1).1).le
  · rcases hcs with h | ⟨k, h1, h2, h3⟩
    · exact .inl (by omega)
    · exact .inr ⟨k, (mem_chTo.1 h1).1, (mem_chTo.1 h1).2, h3, h2⟩
  · cases hf : front b f t (keyOf (tyOf b.types t) d) n with
    | false => rfl
    | true =>
      have := hge.2 n (mem_chTo.2 ⟨hn, hp⟩) hf
      have := (endOf_is b.types f hn).lt
      omega
  · unfold twice at htw
    rw [List.any_eq_false] at htw
    refine htw k (mem_chTo.2 ⟨hk, hp⟩) ?_
    simp [isTwin, hty, hu, hkey]
/-- there is one place alone -/
theorem Spot.uniq {b : Base} {f : List Item} {p t : Int} {d : ByteArray} {n n' : Nat} (S : Spot b f p t d n) (S' : Spot b f p t d n') : n = n' := by
  have key : ∀ {n n' : Nat}, Spot b f p t d n → Spot b f p t d n' → ¬ n < n' := fun {n n'} S S' hlt => by
    have R := S.R
    have hg := S.gt
    rcases S'.at' with h | ⟨c', h1, h2, h3, h4⟩
    · omega
    · have he' := endOf_is b.types f h1
      have hlt' := he'.lt
      have hpc := par_lt b.types f c'
      have hge : n ≤ c' := by
        apply Classical.byContradiction
        intro hc
        rcases S.at' with h | ⟨c, g1, g2, g3, g4⟩
        · omega
        · have hc1 := (endOf_is b.types f g1).lt
          rcases Nat.lt_trichotomy c c' with e | e | e
          · have := end_rise R S.lo e h1 g2 h2; omega
          · subst e; omega
          · have := end_rise R S.lo e g1 h2 g2; omega
      have hnl : n < f.length := by omega
      have hke : c' < kidEnd b f p := by
        apply Classical.byContradiction
        intro hc
        have hm : c' ∈ chl b f p := mem_chTo.2 ⟨h1, h2⟩
        rw [kid_last R S.lo S.hi] at hm
        have := (mem_chTo.1 hm).1
        omega
      have hpn : par b.types f n = p := by
        rcases S.at' with h | ⟨c, g1, g2, g3, g4⟩
        · exact (kid_first R S.lo S.hi h).2.2.1 (by omega)
        · exact (next_child R S.lo g1 g2).2 n g3 hnl (kid_sub S.lo S.hi hg (by omega))
      have hnf := S.next hnl hpn
      by_cases e : n = c'
      · subst e; rw [h4] at hnf; cases hnf
      · have := front_mono R (show n < c' by omega) h1 hpn h2 h4
        rw [this] at hnf; cases hnf
  have h1 := key S S'
  have h2 := key S' S
  omega
end Go.Proofs.Ytbchmbddcdionaa.Code

/- logic: Delete, of the program and of the document. -/
set_option linter.unusedSimpArgs false
set_option linter.unusedVariables false
namespace Go.Proofs.Ytbchmbddcdionaa.Code
open Go.Proofs.Ytbchmbddcdionaa.Ev

/-- the roots' children that go with an item -/
def gone (x : Pr) (i : Int) : List Int := if typ x.g i = 0 then kids x (keyOf (rootTy x.b) (dat x.g i)) else []
noncomputable def dels (b : Base) (f : List Item) (ks : List Int) : List Item := ks.foldr (fun k f => delR b f k) f
noncomputable def dlE (x : Pr) (i : Int) : Int := if askE x = 0 then (if errF x.b x.g [i] = 0 then (if decide (x.l.rule = ⟨#[80]⟩) && decide (gone x i ≠ []) then 181 else 0) else errF x.b x.g [i]) else askE x
noncomputable def dlL (x : Pr) (i : Int) : List Item := if dlE x i = 0 then (if x.l.rule = ⟨#[86]⟩ then dels x.a x.f (gone x i) else x.f) else []
noncomputable def dlR (x : Pr) (i : Int) : List Item := if dlE x i = 0 then delR x.b x.g i else []
def eLLE (l m : List Item) (e : Int) : AV := .tup [eItems l, eItems m, .int .i64 e]
theorem gone_len (x : Pr) (i : Int) : (gone x i).length ≤ x.f.length := by
  unfold gone
  split
  · exact kids_len _ _
  · simp
theorem delR_len (b : Base) (hb : b.Ok) (f : List Item) (i : Int) : (delR b f i).length ≤ f.length := by
  unfold delR
  split
  · rename_i h
    obtain ⟨h0, h1⟩ := (errF_zero hb h).2 i (by simp)
    have := (endOf_is b.types f (i := i.toNat) (by omega)).lt
    simp only [List.length_append, List.length_take, List.length_drop]
    omega
  · simp
theorem dels_len (b : Base) (hb : b.Ok) (f : List Item) : ∀ ks : List Int, (dels b f ks).length ≤ f.length
  | [] => Nat.le_refl _
  | k :: ks => Nat.le_trans (delR_len b hb _ k) (dels_len b hb f ks)
theorem f37z (f : List Item) (hl : f.length ≤ 1000) (H : Heap) : cal (evC cprog) true 37 [eItems f] H = some (eItems f, H) := by
  cases f with
  | nil =>
    have h := clone_nil (ty := 44) (sz := 2) (bytes := 24) at37 H
    exact cal_frz (ids := []) h rfl rfl (by simp) (by simp)
  | cons y ys =>
    have h := f37 (f := y :: ys) (i := 0) (by simp) hl H
    obtain ⟨ids, g1, g2⟩ := fz_blk (H := H ++ [⟨0, true, 44, 2, (y :: ys).map rItem⟩]) (b := H.length) (v := 0) (sz := 2) (len := (y :: ys).length) (k := ⟨0, true, 44, 2, (y :: ys).map rItem⟩) (by simp [curBlk]) (rows := (y :: ys).map rItem)
      (by rw [List.take_of_length_le (by simp)]) (plain_items _) 6
    exact cal_frz (ids := ids) h g1 rfl (by simp) (fun b hb => by rw [g2 b hb]; exact Nat.le_refl _)
/-- a round of logic.Delete's loop -/
def c11_r0 : CC := .block 1 (.region [6, 18, 21] [oL 73 4 6, ol 74 1 18, oM 75 21, oO 76 (z3 36 73 74 75), oM 72 76, oE 77 72 0, oE 78 72 1, oS 1 18 77])
theorem intsOf_map : ∀ ks : List Int, intsOf (ks.map rI) = some ks
  | [] => rfl
  | k :: ks => by simp only [List.map_cons, rI, intsOf, intsOf_map ks, Option.map_some]
def itBox (ks : List Int) : Blk := ⟨0, true, 42, 1, [[eIs ks]]⟩
theorem intsAt_box (H0 : Heap) (L : Blk) (ks : List Int) (hk : ks.length ≤ 1000) : intsAt (H0 ++ [L, itBox ks]) (.ptr (H0.length + 1) 0 1 0 0) = some ks := by
  unfold itBox
  have hc : curBlk (H0 ++ [L, ⟨0, true, 42, 1, [[eIs ks]]⟩]) (H0.length + 1) 0 1 = some ⟨0, true, 42, 1, [[eIs ks]]⟩ := by simp [curBlk]
  have hl : evLoad false 1 (H0 ++ [L, ⟨0, true, 42, 1, [[eIs ks]]⟩]) (.ptr (H0.length + 1) 0 1 0 0) = some (eIs ks) := by simp [evLoad, hc]
  unfold intsAt
  rw [hl]
  simp only [eIs]
  rw [if_pos (by rw [List.length_map]; simp only [reach]; omega), intsOf_map]
def left (f : List Item) : Blk := ⟨0, true, 28, 1, [[eItems f]]⟩
theorem cells_eItems' (l : List Item) : (eItems l).cells = [eItems l] := rfl
theorem isTup_eItems' (l : List Item) : (eItems l).isTup = false := rfl
theorem rnd_one (x : Pr) (h : x.Raw) (n : Nat) (H0 : Heap) (hs : Sits H0 n (bBase x.a)) (T : Env) (h6 : get T 6 = some (.ptr n 0 4 0 0)) (h18 : get T 18 = some (.ptr H0.length 0 1 0 0)) (it : Blk) (f : List Item) (hf : f.length ≤ 1000) (k z : Int) :
    ∃ T', evCode (evC cprog) itLim c11_r0 (put (put (put T (some 70) (.int .i64 k)) (some 71) (.int .i64 z)) (some 21) (.int .i64 z), H0 ++ [left f, it]) = some (.normal, (T', H0 ++ [left (delR x.a f z), it])) := by
  have q36 := f36 x.a h.a f (by omega) z
  simp only [eBase, eLE] at q36
  simp only [bBase, Sits] at hs
  simp only [c11_r0, left, hs, h6, h18, q36, cells_eItems', isTup_eItems', evX, Int.reduceEq, Int.reduceLT, Int.reduceLE, Nat.reduceMul, Nat.reduceMod, evW, fn_eq, evR, Nat.reduceAdd, Nat.reduceLT, Nat.reduceLeDiff, reduceIte, Nat.reduceEqDiff, reduceCtorEq, argEnv, eq_self, if_true, if_false]
  all_goals exact ⟨_, rfl⟩
theorem rnds_left (x : Pr) (h : x.Raw) (n : Nat) (H0 : Heap) (hs : Sits H0 n (bBase x.a)) (T : Env) (h6 : get T 6 = some (.ptr n 0 4 0 0)) (h18 : get T 18 = some (.ptr H0.length 0 1 0 0)) (ks : List Int) (hk : ks.length ≤ 1000) :
    ∀ (l : List (Int × Nat)) (f : List Item), f.length ≤ 1000 → evRnd (evCode (evC cprog) itLim c11_r0) T 70 71 21 (.ptr (H0.length + 1) 0 1 0 0) ks l (H0 ++ [left f, itBox ks]) = some (H0 ++ [left (l.foldl (fun f z => delR x.a f z.1) f), itBox ks])
  | [], f, _ => rfl
  | (z, k) :: l, f, hf => by
    obtain ⟨T', hb⟩ := rnd_one x h n H0 hs T h6 h18 (itBox ks) f hf (k : Int) z
    simp only [evRnd, hb]
    rw [if_pos (intsAt_box H0 (left (delR x.a f z)) ks hk)]
    exact rnds_left x h n H0 hs T h6 h18 ks hk l _ (Nat.le_trans (delR_len x.a h.a f z) hf)
theorem dels_fold (b : Base) (f : List Item) (ks : List Int) : ks.zipIdx.reverse.foldl (fun f z => delR b f z.1) f = dels b f ks := by
  rw [List.foldl_reverse]
  unfold dels
  have h : ks = ks.zipIdx.map Prod.fst := by simp
  conv => rhs; rw [h, List.foldr_map]
/-- the loop of logic.Delete -/
theorem rnds_all (x : Pr) (h : x.Raw) (n : Nat) (H0 : Heap) (hs : Sits H0 n (bBase x.a)) (T : Env) (h6 : get T 6 = some (.ptr n 0 4 0 0)) (h18 : get T 18 = some (.ptr H0.length 0 1 0 0)) (ks : List Int) (hk : ks.length ≤ 1000) (f : List Item) (hf : f.length ≤ 1000) :
    evRnds (evCode (evC cprog) itLim c11_r0) 66 70 71 21 T (H0 ++ [left f, itBox ks]) (some (.fn 66 [.ptr (H0.length + 1) 0 1 0 0])) = some (.normal, (T, H0 ++ [left (dels x.a f ks), itBox ks])) := by
  unfold evRnds
  simp only
  have hi := intsAt_box H0 (left f) ks hk
  simp only [hi, if_true]
  rw [rnds_left x h n H0 hs T h6 h18 ks hk _ f hf, dels_fold]
  rfl
end Go.Proofs.Ytbchmbddcdionaa.Code

/- logic: Delete, of the program and of the document (they answer the same). -/
set_option linter.unusedSimpArgs false
set_option linter.unusedVariables false
namespace Go.Proofs.Ytbchmbddcdionaa.Code
open Go.Proofs.Ytbchmbddcdionaa.Ev

theorem f39 (ks : List Int) (H : Heap) : cal (evC cprog) false 39 [eIs ks] H = some (.fn 66 [.ptr H.length 0 1 0 0], H ++ [itBox ks]) := by
  rw [cal_of at39]
  have e : (eIs ks).cells = [eIs ks] := rfl
  have e' : (eIs ks).isTup = false := rfl
  simp only [c39, itBox, e, e', evX, Int.reduceEq, Int.reduceLT, Int.reduceLE, Nat.reduceMul, Nat.reduceMod, evW, fn_eq, evR, Nat.reduceAdd, Nat.reduceLT, Nat.reduceLeDiff, reduceIte, Nat.reduceEqDiff, reduceCtorEq, argEnv, eq_self, if_true, if_false]
  rw [if_neg (by simp [noRef, noRef1, noRef0])]
theorem rnds11 (x : Pr) (h : x.Raw) (H : Heap) (T : Env) (ks : List Int) (hk : ks.length ≤ 1000) (hf : x.f.length ≤ 1000) (h6 : get T 6 = some (.ptr H.length 0 4 0 0)) (h18 : get T 18 = some (.ptr (H.length + 10) 0 1 0 0)) :
    evRnds (evCode (evC cprog) itLim c11_r0) 66 70 71 21 T (H ++ [bBase x.a, bBase x.b, bLink x.l, bBase x.a, bBase x.b, bLink x.l, bBase x.a, bBase x.b, bLink x.l, bPair x, left x.f, itBox ks]) (some (.fn 66 [.ptr (H.length + 11) 0 1 0 0])) =
      some (.normal, (T, H ++ [bBase x.a, bBase x.b, bLink x.l, bBase x.a, bBase x.b, bLink x.l, bBase x.a, bBase x.b, bLink x.l, bPair x, left (dels x.a x.f ks), itBox ks])) := by
  have q := rnds_all x h H.length (H ++ [bBase x.a, bBase x.b, bLink x.l, bBase x.a, bBase x.b, bLink x.l, bBase x.a, bBase x.b, bLink x.l, bPair x]) (.mk (by simp)) T h6 (by simpa using h18) ks hk x.f hf
  simpa using q
theorem dlE_ask {x : Pr} {i : Int} (h : askE x ≠ 0) : dlE x i = askE x := if_neg h
theorem dlL_err {x : Pr} {i : Int} (h : dlE x i ≠ 0) : dlL x i = [] := if_neg h
theorem dlR_err {x : Pr} {i : Int} (h : dlE x i ≠ 0) : dlR x i = [] := if_neg h
theorem frz_lle {H H1 : Heap} (ht : H1.take H.length = H) (l m : List Item) (e : Int) : calK true H (some (.tup [eItems l, eItems m, .int .i64 e], H1)) = some (eLLE l m e, H) := calK_frz (ids := []) rfl rfl ht (by simp)
theorem frz_nne {H H1 : Heap} (ht : H1.take H.length = H) (e : Int) : calK true H (some (.tup [.nils, .nils, .int .i64 e], H1)) = some (eLLE [] [] e, H) := calK_frz (ids := []) rfl rfl ht (by simp)
theorem f11 (x : Pr) (h : x.Raw) (i : Int) (H : Heap) : cal (evC cprog) true 11 [eBase x.a, eBase x.b, eLink x.l, eItems x.f, eItems x.g, .int .i64 i] H = some (eLLE (dlL x i) (dlR x i) (dlE x i), H) := by
  rw [cal_of at11]
  by_cases h0 : askE x = 0
  case neg =>
    have q35 := f35_err x h h0
    simp only [eBase, eLink] at q35
    have e0 := dlE_ask (i := i) h0
    rw [dlL_err (by rw [e0]; exact h0), dlR_err (by rw [e0]; exact h0), e0]
    simp only [c11, eBase, eLink, q35, h0, evX, Int.reduceEq, Int.reduceLT, Int.reduceLE, Nat.reduceMul, Nat.reduceMod, evW, fn_eq, evR, Nat.reduceAdd, Nat.reduceLT, Nat.reduceLeDiff, reduceIte, Nat.reduceEqDiff, reduceCtorEq, argEnv, eq_self, if_true, if_false]
    refine frz_nne ?_ _
    simp
  obtain ⟨hok, hag⟩ := ask_ok h h0
  obtain ⟨hlf, _⟩ := forest_fits hok.f
  obtain ⟨hlg, _⟩ := forest_fits hok.g
  have q35 := f35_ok x hok hag
  have q36 := f36 x.b h.b x.g h.g i
  by_cases he : errF x.b x.g [i] = 0
  case neg =>
    have e0 : dlE x i = errF x.b x.g [i] := by unfold dlE; rw [if_pos h0, if_neg he]
    rw [dlL_err (by rw [e0]; exact he), dlR_err (by rw [e0]; exact he), e0]
    simp only [eBase, eLink, eLE, bBase, bLink, bPair] at q35 q36
    simp only [c11, eBase, eLink, q35, q36, he, evX, Int.reduceEq, Int.reduceLT, Int.reduceLE, Nat.reduceMul, Nat.reduceMod, evW, fn_eq, evR, Nat.reduceAdd, Nat.reduceLT, Nat.reduceLeDiff, reduceIte, Nat.reduceEqDiff, reduceCtorEq, argEnv, eq_self, if_true, if_false]
    refine frz_nne ?_ _
    simp
  obtain ⟨_, hin⟩ := errF_zero h.b he
  obtain ⟨hi0, hi1⟩ := hin i (by simp)
  obtain ⟨j, rfl⟩ : ∃ j : Nat, i = (j : Int) := ⟨i.toNat, by omega⟩
  obtain ⟨u, hu⟩ : ∃ u, x.g[j]? = some u := ⟨_, List.getElem?_eq_getElem (by omega)⟩
  have ha := aItem hu
  have q37 := f37z x.f (by omega)
  rw [he] at q36
  have ce := cells_eItems' x.f
  have ie := isTup_eItems' x.f
  by_cases ht : u.type = 0
  case neg =>
    have hg : gone x j = [] := by unfold gone; rw [typ_at hu, if_neg ht]
    have e0 : dlE x j = 0 := by unfold dlE; rw [if_pos h0, if_pos he, hg]; simp
    have e1 : dlL x j = x.f := by unfold dlL; rw [if_pos e0, hg]; split <;> rfl
    have e2 : dlR x j = delR x.b x.g j := if_pos e0
    rw [e0, e1, e2]
    simp only [eBase, eLink, eLE, bBase, bLink, bPair] at q35 q36
    simp only [c11, eBase, eLink, q35, q36, q37, ha, rItem, ht, ce, ie, evX, Int.reduceEq, Int.reduceLT, Int.reduceLE, Nat.reduceMul, Nat.reduceMod, evW, fn_eq, evR, Nat.reduceAdd, Nat.reduceLT, Nat.reduceLeDiff, reduceIte, Nat.reduceEqDiff, reduceCtorEq, argEnv, eq_self, if_true, if_false]
    refine frz_lle ?_ _ _ _
    simp
  have q38 := f38 x hok j u hu ht (H.length + 9) (H ++ [bBase x.a, bBase x.b, bLink x.l, bBase x.a, bBase x.b, bLink x.l, bBase x.a, bBase x.b, bLink x.l, bPair x, left x.f]) (.mk (by simp))
  have hg : kids x (keyOf (rootTy x.b) u.data) = gone x j := by unfold gone; rw [typ_at hu, if_pos ht, dat_at hu]
  have hkl := gone_len x j
  rw [hg] at q38
  have hlen := (sIs [] (gone x j)).len
  simp only [List.length_map] at hlen
  have q39 := f39 (gone x j)
  have q50 := fun T => rnds11 x h H T (gone x j) (by omega) (by omega)
  simp only [eBase, eLink, eLE, bBase, bLink, bPair, left, itBox, c11_r0, oL, ol, oM, oO, oE, oS, z3] at q35 q36 q38 q39 q50
  by_cases hp0 : x.l.rule = ⟨#[80]⟩
  · have hp : (x.l.rule = ⟨#[80]⟩) = True := eq_true hp0
    by_cases hk : gone x j = []
    · have e0 : dlE x j = 0 := by unfold dlE; rw [if_pos h0, if_pos he, hk]; simp
      have e1 : dlL x j = x.f := by unfold dlL; rw [if_pos e0, hk]; split <;> rfl
      have e2 : dlR x j = delR x.b x.g j := if_pos e0
      rw [e0, e1, e2]
      rw [hk] at hlen q38
      simp only [List.length_nil, Int.natCast_zero] at hlen
      have hv : (x.l.rule = ⟨#[86]⟩) = False := eq_false (by rw [hp0]; simp)
      simp only [c11, eBase, eLink, q35, q36, q37, q38, hlen, ha, rItem, ht, ce, ie, hp, hv, evX, Int.reduceEq, Int.reduceLT, Int.reduceLE, Nat.reduceMul, Nat.reduceMod, evW, fn_eq, evR, Nat.reduceAdd, Nat.reduceLT, Nat.reduceLeDiff, reduceIte, Nat.reduceEqDiff, reduceCtorEq, argEnv, eq_self, if_true, if_false]
      refine frz_lle ?_ _ _ _
      simp
    · have e0 : dlE x j = 181 := by unfold dlE; rw [if_pos h0, if_pos he, if_pos (by simp [hp0, hk])]
      rw [dlL_err (by rw [e0]; omega), dlR_err (by rw [e0]; omega), e0]
      have hpos : (0 : Int) < ((gone x j).length : Int) := by have := List.length_pos_iff.2 hk; omega
      simp only [c11, eBase, eLink, q35, q36, q37, q38, hlen, ha, rItem, ht, ce, ie, hp, hpos, evX, Int.reduceEq, Int.reduceLT, Int.reduceLE, Nat.reduceMul, Nat.reduceMod, evW, fn_eq, evR, Nat.reduceAdd, Nat.reduceLT, Nat.reduceLeDiff, reduceIte, Nat.reduceEqDiff, reduceCtorEq, argEnv, eq_self, if_true, if_false]
      refine frz_nne ?_ _
      simp
  · have e0 : dlE x j = 0 := by unfold dlE; rw [if_pos h0, if_pos he, if_neg (by simp [hp0])]
    have hp : (x.l.rule = ⟨#[80]⟩) = False := eq_false hp0
    have e2 : dlR x j = delR x.b x.g j := if_pos e0
    rw [e0, e2]
    by_cases hv0 : x.l.rule = ⟨#[86]⟩
    · have hv : (x.l.rule = ⟨#[86]⟩) = True := eq_true hv0
      have e1 : dlL x j = dels x.a x.f (gone x j) := by unfold dlL; rw [if_pos e0, if_pos hv0]
      rw [e1]
      by_cases hpos : (0 : Int) < ((gone x j).length : Int)
      · simp only [c11, eBase, eLink, q35, q36, q37, q38, q39, q50, hlen, ha, rItem, ht, ce, ie, hp, hv, hpos, evX, Int.reduceEq, Int.reduceLT, Int.reduceLE, Nat.reduceMul, Nat.reduceMod, evW, fn_eq, evR, Nat.reduceAdd, Nat.reduceLT, Nat.reduceLeDiff, reduceIte, Nat.reduceEqDiff, reduceCtorEq, argEnv, eq_self, if_true, if_false]
        refine frz_lle ?_ _ _ _
        simp
      · simp only [c11, eBase, eLink, q35, q36, q37, q38, q39, q50, hlen, ha, rItem, ht, ce, ie, hp, hv, hpos, evX, Int.reduceEq, Int.reduceLT, Int.reduceLE, Nat.reduceMul, Nat.reduceMod, evW, fn_eq, evR, Nat.reduceAdd, Nat.reduceLT, Nat.reduceLeDiff, reduceIte, Nat.reduceEqDiff, reduceCtorEq, argEnv, eq_self, if_true, if_false]
        refine frz_lle ?_ _ _ _
        simp
    · have hv : (x.l.rule = ⟨#[86]⟩) = False := eq_false hv0
      have e1 : dlL x j = x.f := by unfold dlL; rw [if_pos e0, if_neg hv0]
      rw [e1]
      by_cases hpos : (0 : Int) < ((gone x j).length : Int)
      · simp only [c11, eBase, eLink, q35, q36, q37, q38, q39, hlen, ha, rItem, ht, ce, ie, hp, hv, hpos, evX, Int.reduceEq, Int.reduceLT, Int.reduceLE, Nat.reduceMul, Nat.reduceMod, evW, fn_eq, evR, Nat.reduceAdd, Nat.reduceLT, Nat.reduceLeDiff, reduceIte, Nat.reduceEqDiff, reduceCtorEq, argEnv, eq_self, if_true, if_false]
        refine frz_lle ?_ _ _ _
        simp
      · simp only [c11, eBase, eLink, q35, q36, q37, q38, q39, hlen, ha, rItem, ht, ce, ie, hp, hv, hpos, evX, Int.reduceEq, Int.reduceLT, Int.reduceLE, Nat.reduceMul, Nat.reduceMod, evW, fn_eq, evR, Nat.reduceAdd, Nat.reduceLT, Nat.reduceLeDiff, reduceIte, Nat.reduceEqDiff, reduceCtorEq, argEnv, eq_self, if_true, if_false]
        refine frz_lle ?_ _ _ _
        simp
theorem errF_in {b : Base} {f : List Item} (hr : Right b f) (i : Int) (h : 0 ≤ i ∧ i < (f.length : Int)) : errF b f [i] = 0 := by
  unfold errF
  rw [if_pos hr.valid, if_pos hr.forest, if_neg]
  simp only [List.any_cons, List.any_nil, Bool.or_false, outOf, Bool.or_eq_true, decide_eq_true_eq]
  omega
end Go.Proofs.Ytbchmbddcdionaa.Code

/- logic: what Delete leaves (mathematics). -/
set_option linter.unusedSimpArgs false
set_option linter.unusedVariables false
namespace Go.Proofs.Ytbchmbddcdionaa.Code
open Go.Proofs.Ytbchmbddcdionaa.Ev

theorem right_nil {b : Base} {f : List Item} (h : Right b f) : Right b [] := by
  refine ⟨h.base, h.valid, ?_⟩
  unfold forestOk
  simp only [List.length_nil, Bool.and_eq_true, decide_eq_true_eq]
  exact ⟨by omega, tell_pos fun i y hy => by simp at hy⟩
theorem delR_right {b : Base} {f : List Item} (h : Right b f) (i : Int) : Right b (delR b f i) := by
  unfold delR
  split
  · rename_i he
    obtain ⟨h0, h1⟩ := (errF_zero h.base he).2 i (by simp)
    exact del_right h (by omega)
  · exact right_nil h
theorem dels_right {b : Base} {f : List Item} (h : Right b f) : ∀ ks : List Int, Right b (dels b f ks)
  | [] => h
  | k :: ks => delR_right (dels_right h ks) k
theorem mem_delR {b : Base} {f : List Item} {i : Int} {y : Item} (h : y ∈ delR b f i) : y ∈ f := by
  unfold delR at h
  split at h
  · rcases List.mem_append.1 h with h | h
    · exact List.mem_of_mem_take h
    · exact List.mem_of_mem_drop h
  · simp at h
theorem mem_dels {b : Base} {f : List Item} {y : Item} : ∀ ks : List Int, y ∈ dels b f ks → y ∈ f
  | [], h => h
  | _ :: ks, h => mem_dels ks (mem_delR h)
theorem delR_nil (b : Base) (i : Int) : delR b [] i = [] := by
  unfold delR
  split <;> simp
def pick (P : Item → Bool) : Nat → Item → List Int := fun i y => if P y = true then [(i : Int)] else []
/-- when all that are picked have gone, none is left -/
theorem dels_pick (b : Base) (hb : b.Ok) (P : Item → Bool) : ∀ (ys pre : List Item), (gath (pick P) pre.length ys).foldr (fun k f => delR b f k) (pre ++ ys) = [] ∨ ∃ R, (gath (pick P) pre.length ys).foldr (fun k f => delR b f k) (pre ++ ys) = pre ++ R ∧ ∀ y ∈ R, P y = false
  | [], pre => .inr ⟨[], by simp [gath], by simp⟩
  | y :: ys, pre => by
    have ih := dels_pick b hb P ys (pre ++ [y])
    rw [List.length_append, List.length_singleton, List.append_assoc, List.singleton_append] at ih
    obtain ⟨X, hX⟩ : ∃ X, X = (gath (pick P) (pre.length + 1) ys).foldr (fun k f => delR b f k) (pre ++ y :: ys) := ⟨_, rfl⟩
    rw [← hX] at ih
    have hg : gath (pick P) pre.length (y :: ys) = pick P pre.length y ++ gath (pick P) (pre.length + 1) ys := rfl
    rw [hg, List.foldr_append, ← hX]
    unfold pick
    cases hp : P y with
    | false =>
      simp only [Bool.false_eq_true, if_false, List.foldr_nil]
      rcases ih with ih | ⟨R, h1, h2⟩
      · exact .inl ih
      · refine .inr ⟨y :: R, by rw [h1]; simp, fun z hz => ?_⟩
        rcases List.mem_cons.1 hz with rfl | hz
        · exact hp
        · exact h2 z hz
    | true =>
      simp only [if_true, List.foldr_cons, List.foldr_nil]
      rcases ih with ih | ⟨R, h1, h2⟩
      · rw [ih]; exact .inl (delR_nil b _)
      · unfold delR
        split
        · rename_i he
          obtain ⟨h3, h4⟩ := (errF_zero hb he).2 (pre.length : Int) (by simp)
          have hlt := (endOf_is b.types X (i := pre.length) (by omega)).lt
          rw [Int.toNat_natCast]
          obtain ⟨m, hm⟩ : ∃ m, endOf b.types X pre.length = pre.length + 1 + m := ⟨endOf b.types X pre.length - (pre.length + 1), by omega⟩
          refine .inr ⟨R.drop m, ?_, fun z hz => h2 z (List.mem_of_mem_drop hz)⟩
          rw [hm, h1]
          simp only [List.append_assoc, List.singleton_append]
          rw [List.take_left', List.drop_append, List.drop_eq_nil_of_le (by omega), List.nil_append]
          · congr 1
            rw [show pre.length + 1 + m - pre.length = m + 1 by omega]
            rfl
          · rfl
        · exact .inl rfl
theorem dels_none (b : Base) (hb : b.Ok) (P : Item → Bool) (f : List Item) {y : Item} (hy : y ∈ dels b f (gath (pick P) 0 f)) : P y = false := by
  rcases dels_pick b hb P f [] with h | ⟨R, h1, h2⟩
  · change dels b f (gath (pick P) 0 f) = [] at h
    rw [h] at hy; simp at hy
  · change dels b f (gath (pick P) 0 f) = [] ++ R at h1
    rw [h1, List.nil_append] at hy
    exact h2 y hy
/-! the second forest without a root -/
theorem root_pth {b : Base} {f : List Item} (h : Right b f) {j : Nat} {y : Item} (hy : f[j]? = some y) (ty : y.type = 0) : pth b.types f j = [(j : Int)] := by
  obtain ⟨r, hr, hr0, hru⟩ := root_uniq h.valid
  have hjl := (List.getElem?_eq_some_iff.1 hy).1
  have hpj : par b.types f j < 0 := by
    unfold par
    rw [typ_at hy, ty]
    have hp : tpar b.types 0 = r.parent := tpar_at hr
    have := (tys_root (valid_tys h.valid) hr).2 rfl
    rw [hp, if_pos this]; omega
  rw [pth_eq b.types f hjl, pthI, ancI_neg _ hpj]; rfl
theorem upI_neg (x : Pr) (d : ByteArray) : upI x d < 0 ↔ ∀ y ∈ x.g, isRoot x.b (kOf x d) y = false := by
  rcases idxOf_cases (isRoot x.b (kOf x d)) x.g with ⟨h1, h2⟩ | ⟨m, z, h1, h2, h3⟩
  · refine ⟨fun _ y hy => ?_, fun _ => by unfold upI rootIx; rw [h1]; omega⟩
    exact h2 y hy
  · refine ⟨fun h => ?_, fun h => ?_⟩
    · unfold upI rootIx at h; rw [h1] at h; omega
    · rw [h z (List.mem_of_getElem? h2)] at h3; cases h3
/-- the pair without a root of the second forest -/
noncomputable def Pr.less (x : Pr) (j : Nat) : Pr := { x with g := x.g.take j ++ x.g.drop (endOf x.b.types x.g j) }
theorem less_up {x : Pr} (h : x.Ok) {j : Nat} {u : Item} (hu : x.g[j]? = some u) (ht : u.type = 0) (d : ByteArray) :
    upI (x.less j) d < 0 ↔ upI x d < 0 ∨ kOf x d = keyOf (rootTy x.b) u.data := by
  have hj := (List.getElem?_eq_some_iff.1 hu).1
  have hend := endOf_is x.b.types x.g hj
  rw [upI_neg, upI_neg]
  change (∀ y ∈ x.g.take j ++ x.g.drop (endOf x.b.types x.g j), isRoot x.b (kOf x d) y = false) ↔ _
  constructor
  · intro hn
    by_cases hk : kOf x d = keyOf (rootTy x.b) u.data
    · exact .inr hk
    · refine .inl fun y hy => ?_
      obtain ⟨m, hm⟩ := List.getElem?_of_mem hy
      by_cases h1 : m < j
      · exact hn y (List.mem_append_left _ (List.mem_of_getElem? (i := m) (by rw [List.getElem?_take, if_pos h1]; exact hm)))
      by_cases h2 : endOf x.b.types x.g j ≤ m
      · exact hn y (List.mem_append_right _ (List.mem_of_getElem? (i := m - endOf x.b.types x.g j) (by rw [List.getElem?_drop, show endOf x.b.types x.g j + (m - endOf x.b.types x.g j) = m by omega]; exact hm)))
      cases hr : isRoot x.b (kOf x d) y with
      | false => rfl
      | true =>
        simp only [isRoot, Bool.and_eq_true, decide_eq_true_eq] at hr
        by_cases e : m = j
        · subst e
          rw [hu] at hm
          cases hm
          exact absurd hr.2.symm hk
        · have hin := hend.all m (by omega) (by omega)
          rw [root_pth h.rg hm hr.1] at hin
          simp only [List.mem_singleton] at hin
          omega
  · intro hor y hy
    rcases hor with hn | hk
    · rcases List.mem_append.1 hy with hy | hy
      · exact hn y (List.mem_of_mem_take hy)
      · exact hn y (List.mem_of_mem_drop hy)
    · cases hr : isRoot x.b (kOf x d) y with
      | false => rfl
      | true =>
        simp only [isRoot, Bool.and_eq_true, decide_eq_true_eq] at hr
        exfalso
        have hlt := hend.lt
        rcases List.mem_append.1 hy with hy | hy
        · obtain ⟨m, hm⟩ := List.getElem?_of_mem hy
          rw [List.getElem?_take] at hm
          split at hm
          · have := roots_apart h.rg hm hu hr.1 ht (by rw [hr.2, hk])
            omega
          · cases hm
        · obtain ⟨m, hm⟩ := List.getElem?_of_mem hy
          rw [List.getElem?_drop] at hm
          have := roots_apart h.rg hm hu hr.1 ht (by rw [hr.2, hk])
          omega
theorem less_lost {x : Pr} (h : x.Ok) {j : Nat} {u : Item} (hu : x.g[j]? = some u) (ht : u.type = 0) (y : Item) :
    isLost (x.less j) y = (isLost x y || isKid x (keyOf (rootTy x.b) u.data) y) := by
  have hup := less_up h hu ht y.data
  have hc : (x.less j).l.child = x.l.child := rfl
  unfold isLost isKid
  rw [hc]
  by_cases hy : y.type = x.l.child
  · by_cases h1 : upI x y.data < 0 <;> by_cases h2 : kOf x y.data = keyOf (rootTy x.b) u.data <;> simp [hy, h1, h2, hup]
  · simp [hy]
theorem lost_kid {x : Pr} (h : x.Ok) {j : Nat} {u : Item} (hu : x.g[j]? = some u) (ht : u.type = 0) (y : Item) : (isLost x y && isKid x (keyOf (rootTy x.b) u.data) y) = false := by
  cases hk : isKid x (keyOf (rootTy x.b) u.data) y with
  | false => simp
  | true =>
    simp only [isKid, Bool.and_eq_true, decide_eq_true_eq] at hk
    have := (up_iff h hu ht y.data).2 hk.2
    unfold isLost
    rw [this]
    simp
theorem count_or (P Q R : Item → Bool) (hor : ∀ y, R y = (P y || Q y)) (hand : ∀ y, (P y && Q y) = false) : ∀ (l : List Item) (k : Nat), (gath (pick R) k l).length = (gath (pick P) k l).length + (gath (pick Q) k l).length
  | [], k => rfl
  | y :: l, k => by
    have ih := count_or P Q R hor hand l (k + 1)
    have h1 := hor y
    have h2 := hand y
    simp only [gath, pick, List.length_append] at ih ⊢
    rw [h1]
    cases hp : P y <;> cases hq : Q y <;> simp_all <;> omega
theorem less_count {x : Pr} (h : x.Ok) {j : Nat} {u : Item} (hu : x.g[j]? = some u) (ht : u.type = 0) : (lostL (x.less j)).length = (lostL x).length + (kids x (keyOf (rootTy x.b) u.data)).length :=
  count_or (isLost x) (isKid x (keyOf (rootTy x.b) u.data)) (isLost (x.less j)) (less_lost h hu ht) (lost_kid h hu ht) x.f 0
theorem none_lost {x : Pr} (h : ∀ y ∈ x.f, isLost x y = false) : lostL x = [] := by
  have key : ∀ (l : List Item) (k : Nat), (∀ y ∈ l, isLost x y = false) → gath (pick (isLost x)) k l = [] := by
    intro l
    induction l with
    | nil => intros; rfl
    | cons y l ih => intro k hl; simp only [gath, pick, hl y (by simp), Bool.false_eq_true, if_false, List.nil_append]; exact ih (k + 1) fun z hz => hl z (by simp [hz])
  exact key x.f 0 h
theorem lost_none {x : Pr} (h : (lostL x).length = 0) {y : Item} (hy : y ∈ x.f) : isLost x y = false := by
  have key : ∀ (l : List Item) (k : Nat), (gath (pick (isLost x)) k l).length = 0 → ∀ y ∈ l, isLost x y = false := by
    intro l
    induction l with
    | nil => intro k _ y hy; simp at hy
    | cons z l ih =>
      intro k hl y hy
      simp only [gath, List.length_append] at hl
      rcases List.mem_cons.1 hy with rfl | hy
      · cases hp : isLost x y with
        | false => rfl
        | true => unfold pick at hl; rw [hp] at hl; simp at hl
      · exact ih (k + 1) (by omega) y hy
  exact key x.f 0 h y hy
end Go.Proofs.Ytbchmbddcdionaa.Code

/- logic: what Insert and Delete leave agrees (mathematics). -/
set_option linter.unusedSimpArgs false
set_option linter.unusedVariables false
namespace Go.Proofs.Ytbchmbddcdionaa.Code
open Go.Proofs.Ytbchmbddcdionaa.Ev

theorem open_of {x : Pr} (h : x.Ok) : openE x = 0 := by
  unfold openE
  rw [if_pos (by rw [h.va, h.vb]; rfl), if_pos h.li, if_pos (by rw [h.f, h.g]; rfl)]
theorem ask_of {x : Pr} (h : x.Ok) (ha : agreeB x = true) : askE x = 0 := by
  unfold askE
  rw [if_pos (open_of h), if_pos ha]
/-- what an insertion gives is a forest -/
theorem ins_right {b : Base} (hb : b.Ok) {f : List Item} {p t : Int} {d : ByteArray} (h : insE b f p t d = 0) : ∃ n : Nat, insL b f p t d = insX f t d n ∧ Right b (insX f t d n) := by
  have h0 := h
  unfold insE at h
  split at h
  case isFalse he => exact absurd h he
  rename_i he
  split at h
  · cases h
  rename_i h200
  obtain ⟨R, hg, htw, hn⟩ := place_ok hb he
  obtain ⟨q1, q2, q3, q4⟩ := argOk_at hg
  have S := spot_of R q1 q2 q3 q4 htw
  exact ⟨placeN b f p t d, if_pos h0, S.right (by omega)⟩
noncomputable def Pr.more (x : Pr) (l : List Item) : Pr := { x with f := l }
theorem ins_agree {x : Pr} (h : x.Ok) (hag : agreeB x = true) {p t : Int} {d : ByteArray} (he : lgE x p t d = 0) : (x.more (lgL x p t d)).Ok ∧ agreeB (x.more (lgL x p t d)) = true := by
  have h0 := ask_of h hag
  unfold lgE at he
  rw [if_pos h0] at he
  split at he
  case isFalse => cases he
  rename_i hok
  have hL : lgL x p t d = insL x.a x.f p t d := if_pos hok
  obtain ⟨n, hn, hR⟩ := ins_right h.a he
  rw [hL, hn]
  refine ⟨⟨h.a, h.b, h.va, h.vb, h.li, hR.forest, h.g⟩, ?_⟩
  have hfb : forb x t d = false := by
    unfold lgOk at hok
    rw [he] at hok
    simpa [h0] using hok
  unfold agreeB at hag ⊢
  change (decide (x.l.rule = ⟨#[76]⟩) || decide ((lostL (x.more (insX x.f t d n))).length = 0)) = true
  by_cases hr : x.l.rule = ⟨#[76]⟩
  · simp [hr]
  · simp only [hr, decide_false, Bool.false_or, decide_eq_true_eq] at hag ⊢
    rw [none_lost (x := x.more (insX x.f t d n)) fun y hy => ?_]; rfl
    change isLost x y = false
    change y ∈ x.f.take n ++ ⟨t, d⟩ :: x.f.drop n at hy
    rcases List.mem_append.1 hy with hy | hy
    · exact lost_none hag (List.mem_of_mem_take hy)
    · rcases List.mem_cons.1 hy with rfl | hy
      · unfold forb at hfb
        simp only [hr, decide_false, Bool.not_false, Bool.and_true] at hfb
        exact hfb
      · exact lost_none hag (List.mem_of_mem_drop hy)
/-- the pair behind a deletion -/
noncomputable def Pr.cut (x : Pr) (l m : List Item) : Pr := { x with f := l, g := m }
theorem del_agree {x : Pr} (h : x.Ok) (hag : agreeB x = true) {j : Nat} {u : Item} (hu : x.g[j]? = some u) (ht : u.type = 0) (he : dlE x j = 0) :
    (x.cut (dlL x j) (dlR x j)).Ok ∧ agreeB (x.cut (dlL x j) (dlR x j)) = true ∧ (x.l.rule = ⟨#[76]⟩ → (lostL (x.cut (dlL x j) (dlR x j))).length = (lostL x).length + (gone x j).length) ∧ (x.l.rule = ⟨#[86]⟩ → lostL (x.cut (dlL x j) (dlR x j)) = []) := by
  have hj := (List.getElem?_eq_some_iff.1 hu).1
  have hin := errF_in h.rg (j : Int) ⟨by omega, by omega⟩
  have h0 := ask_of h hag
  have hR : dlR x j = (x.less j).g := by
    unfold dlR
    rw [if_pos he]
    unfold delR
    rw [if_pos hin]
    rfl
  have hgone : gone x j = kids x (keyOf (rootTy x.b) u.data) := by unfold gone; rw [typ_at hu, if_pos ht, dat_at hu]
  have hpk : ¬ (x.l.rule = ⟨#[80]⟩ ∧ gone x j ≠ []) := by
    intro hc
    unfold dlE at he
    rw [if_pos h0, if_pos hin, if_pos (by simp [hc.1, hc.2])] at he
    cases he
  obtain ⟨c, t, k, fd, L⟩ := link_at h.va h.li
  have hrg : Right x.b (x.less j).g := del_right h.rg hj
  have hL : dlL x j = if x.l.rule = ⟨#[86]⟩ then dels x.a x.f (gone x j) else x.f := if_pos he
  rw [hR, hL]
  by_cases hv : x.l.rule = ⟨#[86]⟩
  · rw [if_pos hv]
    have hrf : Right x.a (dels x.a x.f (gone x j)) := dels_right h.rf _
    have hnl : x.l.rule ≠ ⟨#[76]⟩ := by rw [hv]; simp
    have hlost : (lostL x).length = 0 := by
      unfold agreeB at hag
      simpa [hnl] using hag
    have hnone : lostL (x.cut (dels x.a x.f (gone x j)) (x.less j).g) = [] := by
      refine none_lost fun y hy => ?_
      change isLost (x.less j) y = false
      change y ∈ dels x.a x.f (gone x j) at hy
      rw [less_lost h hu ht, lost_none hlost (mem_dels _ hy), Bool.false_or]
      rw [hgone] at hy
      exact dels_none x.a h.a (isKid x (keyOf (rootTy x.b) u.data)) x.f hy
    refine ⟨⟨h.a, h.b, h.va, h.vb, h.li, hrf.forest, hrg.forest⟩, ?_, fun hc => absurd hc hnl, fun _ => hnone⟩
    unfold agreeB
    rw [hnone]
    simp
  · rw [if_neg hv]
    have hcnt := less_count h hu ht
    rw [← hgone] at hcnt
    refine ⟨⟨h.a, h.b, h.va, h.vb, h.li, h.f, hrg.forest⟩, ?_, fun _ => hcnt, fun hc => absurd hc hv⟩
    change (decide (x.l.rule = ⟨#[76]⟩) || decide ((lostL (x.less j)).length = 0)) = true
    rcases L.rule with hp | hl | hv'
    · have hk : gone x j = [] := by
        cases hk : gone x j with
        | nil => rfl
        | cons a l => exact absurd ⟨hp, by rw [hk]; simp⟩ hpk
      have hnl : x.l.rule ≠ ⟨#[76]⟩ := by rw [hp]; simp
      have hlost : (lostL x).length = 0 := by
        unfold agreeB at hag
        simpa [hnl] using hag
      rw [hcnt, hk, hlost]
      simp
    · simp [hl]
    · exact absurd hv' hv
end Go.Proofs.Ytbchmbddcdionaa.Code

/- The law LogicRules is true. -/
set_option linter.unusedSimpArgs false
set_option linter.unusedVariables false
namespace Go.Proofs.Ytbchmbddcdionaa.Code
open Go.Proofs.Ytbchmbddcdionaa.Ev

theorem insL_len (b : Base) (f : List Item) (p t : Int) (d : ByteArray) : (insL b f p t d).length ≤ f.length + 1 + f.length := by
  unfold insL
  split
  · simp; omega
  · simp
theorem lgL_len (x : Pr) (p t : Int) (d : ByteArray) : (lgL x p t d).length ≤ x.f.length + 1 + x.f.length := by
  unfold lgL
  split
  · exact insL_len _ _ _ _ _
  · simp
theorem dlL_len (x : Pr) (h : x.Raw) (i : Int) : (dlL x i).length ≤ x.f.length := by
  unfold dlL
  split
  · split
    · exact dels_len _ h.a _ _
    · exact Nat.le_refl _
  · simp
theorem dlR_len (x : Pr) (h : x.Raw) (i : Int) : (dlR x i).length ≤ x.g.length := by
  unfold dlR
  split
  · exact delR_len _ h.b _ _
  · simp
theorem in_or_out (g : List Item) (i : Int) : i < 0 ∨ (¬ i < 0 ∧ (g.length : Int) ≤ i) ∨ ∃ (j : Nat) (u : Item), i = (j : Int) ∧ g[j]? = some u := by
  by_cases k0 : i < 0
  · exact .inl k0
  · by_cases k1 : (g.length : Int) ≤ i
    · exact .inr (.inl ⟨k0, k1⟩)
    · obtain ⟨j, rfl⟩ : ∃ j : Nat, i = (j : Int) := ⟨i.toNat, by omega⟩
      exact .inr (.inr ⟨j, _, rfl, List.getElem?_eq_getElem (by omega)⟩)
theorem rule_P {x : Pr} (h : x.Raw) (h0 : askE x = 0) (hr : x.l.rule ≠ ⟨#[76]⟩) (hv : x.l.rule ≠ ⟨#[86]⟩) : x.l.rule = ⟨#[80]⟩ := by
  obtain ⟨hok, _⟩ := ask_ok h h0
  obtain ⟨c, t, k, fd, L⟩ := link_at hok.va hok.li
  rcases L.rule with hp | hl | hv'
  · exact hp
  · exact absurd hl hr
  · exact absurd hv' hv
theorem dlE_181 {x : Pr} (h : x.Raw) (h0 : askE x = 0) {j : Nat} {u : Item} (hu : x.g[j]? = some u) (hp : x.l.rule = ⟨#[80]⟩) (hk : gone x j ≠ []) : dlE x j = 181 := by
  have hj := (List.getElem?_eq_some_iff.1 hu).1
  unfold dlE
  rw [if_pos h0, if_pos (errF_in (ask_ok h h0).1.rg _ ⟨by omega, by omega⟩), if_pos (by simp [hp, hk])]
theorem dlE_0 {x : Pr} (h : x.Raw) (h0 : askE x = 0) {j : Nat} {u : Item} (hu : x.g[j]? = some u) (hpk : ¬ (x.l.rule = ⟨#[80]⟩ ∧ gone x j ≠ [])) : dlE x j = 0 := by
  have hj := (List.getElem?_eq_some_iff.1 hu).1
  unfold dlE
  rw [if_pos h0, if_pos (errF_in (ask_ok h h0).1.rg _ ⟨by omega, by omega⟩), if_neg (by simp only [Bool.and_eq_true, decide_eq_true_eq]; exact hpk)]
theorem rule_facts (x : Pr) (h : x.Raw) (h0 : askE x = 0) {j : Nat} {u : Item} (hu : x.g[j]? = some u) (ht : u.type = 0) :
    (∀ H, cal (evC cprog) true 19 [.agg [.str x.a.name, .int .i64 x.a.kind, eTys x.a.types, eSes x.a.indexes], .agg [.str x.b.name, .int .i64 x.b.kind, eTys x.b.types, eSes x.b.indexes], .agg [.int .i64 x.l.child, .int .i64 x.l.field, .str x.l.rule], eItems x.f, eItems x.g, .int .i64 (j : Int)] H = some (.tup [eIs (gone x j), .int .i64 0], H)) ∧
    (∀ H, cal (evC cprog) true 21 [.agg [.str x.a.name, .int .i64 x.a.kind, eTys x.a.types, eSes x.a.indexes], .agg [.str x.b.name, .int .i64 x.b.kind, eTys x.b.types, eSes x.b.indexes], .agg [.int .i64 x.l.child, .int .i64 x.l.field, .str x.l.rule], eItems x.f, eItems x.g] H = some (.tup [eIs (lostL x), .int .i64 0], H)) ∧
    (∀ H, cal (evC cprog) true 11 [.agg [.str x.a.name, .int .i64 x.a.kind, eTys x.a.types, eSes x.a.indexes], .agg [.str x.b.name, .int .i64 x.b.kind, eTys x.b.types, eSes x.b.indexes], .agg [.int .i64 x.l.child, .int .i64 x.l.field, .str x.l.rule], eItems x.f, eItems x.g, .int .i64 (j : Int)] H = some (.tup [eItems (dlL x j), eItems (dlR x j), .int .i64 (dlE x j)], H)) ∧
    lenK false (some (eIs (gone x j))) = some (.int .i64 ((gone x j).length : Int)) ∧ lenK false (some (eIs (lostL x))) = some (.int .i64 ((lostL x).length : Int)) := by
  obtain ⟨hok, hag⟩ := ask_ok h h0
  have hj := (List.getElem?_eq_some_iff.1 hu).1
  have hroot : rootE x (j : Int) = 0 := by
    unfold rootE
    rw [if_pos h0, if_pos]
    simp only [isRt, Bool.and_eq_true, decide_eq_true_eq]
    exact ⟨⟨by omega, by omega⟩, by rw [typ_at hu]; exact ht⟩
  have hk : kidsR x (j : Int) = gone x j := by
    unfold kidsR gone
    rw [if_pos hroot, typ_at hu, if_pos ht]
  have l1 := (sIs [] (gone x j)).len
  have l2 := (sIs [] (lostL x)).len
  simp only [List.length_map] at l1 l2
  refine ⟨fun H => ?_, fun H => ?_, fun H => f11 x h j H, l1, l2⟩
  · have q := f19 x h j H
    rw [hroot, hk] at q
    exact q
  · have q := f21 x h H
    rw [show lostR x = lostL x from if_pos h0, h0] at q
    exact q
theorem rule_more (x : Pr) (h : x.Raw) (h0 : askE x = 0) {j : Nat} {u : Item} (hu : x.g[j]? = some u) (ht : u.type = 0) (he : dlE x j = 0) :
    (∀ H, cal (evC cprog) false 16 [.agg [.str x.a.name, .int .i64 x.a.kind, eTys x.a.types, eSes x.a.indexes], .agg [.str x.b.name, .int .i64 x.b.kind, eTys x.b.types, eSes x.b.indexes], .agg [.int .i64 x.l.child, .int .i64 x.l.field, .str x.l.rule], eItems (dlL x j), eItems (dlR x j)] H = some (.tup [.bool true, .int .i64 0], H)) ∧
    (∀ H, cal (evC cprog) true 21 [.agg [.str x.a.name, .int .i64 x.a.kind, eTys x.a.types, eSes x.a.indexes], .agg [.str x.b.name, .int .i64 x.b.kind, eTys x.b.types, eSes x.b.indexes], .agg [.int .i64 x.l.child, .int .i64 x.l.field, .str x.l.rule], eItems (dlL x j), eItems (dlR x j)] H = some (.tup [eIs (lostL (x.cut (dlL x j) (dlR x j))), .int .i64 0], H)) ∧
    lenK false (some (eIs (lostL (x.cut (dlL x j) (dlR x j))))) = some (.int .i64 ((lostL (x.cut (dlL x j) (dlR x j))).length : Int)) ∧
    (x.l.rule = ⟨#[76]⟩ → (((lostL (x.cut (dlL x j) (dlR x j))).length : Nat) : Int) = ((lostL x).length : Int) + ((gone x j).length : Int)) ∧ (x.l.rule = ⟨#[86]⟩ → lostL (x.cut (dlL x j) (dlR x j)) = []) ∧ (x.l.rule ≠ ⟨#[86]⟩ → dlL x j = x.f) := by
  obtain ⟨hok, hag⟩ := ask_ok h h0
  obtain ⟨g1, g2, g3, g4⟩ := del_agree hok hag hu ht he
  have hraw : (x.cut (dlL x j) (dlR x j)).Raw := ⟨h.a, h.b, by have := dlL_len x h j; have := h.f; show (dlL x j).length < _; omega, by have := dlR_len x h j; have := h.g; show (dlR x j).length < _; omega⟩
  have l1 := (sIs [] (lostL (x.cut (dlL x j) (dlR x j)))).len
  simp only [List.length_map] at l1
  refine ⟨fun H => ?_, fun H => ?_, l1, fun hr => by rw [g3 hr]; simp, g4, fun hv => ?_⟩
  · have q := f16 (x.cut (dlL x j) (dlR x j)) hraw H
    rw [open_of g1, g2] at q
    exact q
  · have q := f21 (x.cut (dlL x j) (dlR x j)) hraw H
    rw [show lostR (x.cut (dlL x j) (dlR x j)) = lostL (x.cut (dlL x j) (dlR x j)) from if_pos (ask_of g1 g2), ask_of g1 g2] at q
    exact q
  · unfold dlL
    rw [if_pos he, if_neg hv]
set_option maxHeartbeats 4000000 in
theorem f8 (x : Pr) (h : x.Raw) (p t i : Int) (d : ByteArray) : ∃ H', evC cprog 8 [eTwo x, .agg [.int .i64 p, .int .i64 t, .int .i64 i], .str d] [] = some (.bool true, H') := by
  obtain ⟨s, q9, hs⟩ := f9 x h ([⟨0, true, 30, 13, [[.str x.a.name, .int .i64 x.a.kind, eTys x.a.types, eSes x.a.indexes, .str x.b.name, .int .i64 x.b.kind, eTys x.b.types, eSes x.b.indexes, .int .i64 x.l.child, .int .i64 x.l.field, .str x.l.rule, eItems x.f, eItems x.g]]⟩, ⟨0, true, 55, 3, [[.int .i64 p, .int .i64 t, .int .i64 i]]⟩])
  have q10 := f10
  have q18 := f18 x h
  have q32 := f32 x h p t d
  have hlen := (sItems [] x.g).len
  simp only [List.length_map] at hlen
  simp only [eBase, eLink, eTwo, eLIE] at q9 q18 q32
  rw [evC_fn at8]
  cases s with
  | false =>
    simp only [c8, eTwo, q9, q10, evX, Int.reduceEq, Int.reduceLT, Int.reduceLE, Nat.reduceMul, Nat.reduceMod, evW, fn_eq, evR, Nat.reduceAdd, Nat.reduceLT, Nat.reduceLeDiff, reduceIte, Nat.reduceEqDiff, reduceCtorEq, argEnv, eq_self, if_true, if_false]
    all_goals exact ⟨_, rfl⟩
  | true =>
    obtain ⟨hlf, hlg⟩ := hs rfl
    by_cases hd : (100 : Int) < (d.size : Int)
    case pos =>
      simp only [c8, eTwo, q9, q10, hd, evX, Int.reduceEq, Int.reduceLT, Int.reduceLE, Nat.reduceMul, Nat.reduceMod, evW, fn_eq, evR, Nat.reduceAdd, Nat.reduceLT, Nat.reduceLeDiff, reduceIte, Nat.reduceEqDiff, reduceCtorEq, argEnv, eq_self, if_true, if_false]
      all_goals exact ⟨_, rfl⟩
    by_cases h0 : askE x = 0
    case neg =>
      simp only [c8, eTwo, q9, q10, hd, q18, h0, evX, Int.reduceEq, Int.reduceLT, Int.reduceLE, Nat.reduceMul, Nat.reduceMod, evW, fn_eq, evR, Nat.reduceAdd, Nat.reduceLT, Nat.reduceLeDiff, reduceIte, Nat.reduceEqDiff, reduceCtorEq, argEnv, eq_self, if_true, if_false]
      all_goals exact ⟨_, rfl⟩
    rw [h0] at q18
    obtain ⟨hok, hag⟩ := ask_ok h h0
    have hraw : (x.more (lgL x p t d)).Raw := ⟨h.a, h.b, by have := lgL_len x p t d; show (lgL x p t d).length < _; omega, h.g⟩
    have q16a : ∀ H, cal (evC cprog) false 16 [.agg [.str x.a.name, .int .i64 x.a.kind, eTys x.a.types, eSes x.a.indexes], .agg [.str x.b.name, .int .i64 x.b.kind, eTys x.b.types, eSes x.b.indexes], .agg [.int .i64 x.l.child, .int .i64 x.l.field, .str x.l.rule], eItems (lgL x p t d), eItems x.g] H = some (.tup [.bool (decide (openE (x.more (lgL x p t d)) = 0) && agreeB (x.more (lgL x p t d))), .int .i64 (openE (x.more (lgL x p t d)))], H) := fun H => f16 (x.more (lgL x p t d)) hraw H
    have q13 := f13 x.f x.f h.f
    rw [show same x.f x.f = true from tell_pos rfl] at q13
    have hw := wrapQ (a := ((lostL x).length : Int)) (b := ((gone x i).length : Int)) (by omega) (by omega) (by have := lost_len x; omega) (by have := gone_len x i; omega)
    by_cases hl0 : lgE x p t d = 0
    · obtain ⟨g1, g2⟩ := ins_agree hok hag hl0
      rw [open_of g1, g2] at q16a
      simp only [decide_true, Bool.and_self] at q16a
      rw [hl0] at q32
      rcases in_or_out x.g i with k0 | ⟨k0, k1⟩ | ⟨j, u, rfl, hu⟩
      · simp only [c8, eTwo, q9, q10, q18, hd, q32, q16a, hlen, k0, evX, Int.reduceEq, Int.reduceLT, Int.reduceLE, Nat.reduceMul, Nat.reduceMod, evW, fn_eq, evR, Nat.reduceAdd, Nat.reduceLT, Nat.reduceLeDiff, reduceIte, Nat.reduceEqDiff, reduceCtorEq, argEnv, eq_self, if_true, if_false]
        all_goals exact ⟨_, rfl⟩
      · simp only [c8, eTwo, q9, q10, q18, hd, q32, q16a, hlen, k0, k1, evX, Int.reduceEq, Int.reduceLT, Int.reduceLE, Nat.reduceMul, Nat.reduceMod, evW, fn_eq, evR, Nat.reduceAdd, Nat.reduceLT, Nat.reduceLeDiff, reduceIte, Nat.reduceEqDiff, reduceCtorEq, argEnv, eq_self, if_true, if_false]
        all_goals exact ⟨_, rfl⟩
      have ha := aItem hu
      have hj := (List.getElem?_eq_some_iff.1 hu).1
      have k0 : ¬ (j : Int) < 0 := by omega
      have k1 : ¬ (x.g.length : Int) ≤ (j : Int) := by omega
      by_cases ht : u.type = 0
      case neg =>
        simp only [c8, eTwo, q9, q10, q18, hd, q32, q16a, hlen, k0, k1, ha, rItem, ht, evX, Int.reduceEq, Int.reduceLT, Int.reduceLE, Nat.reduceMul, Nat.reduceMod, evW, fn_eq, evR, Nat.reduceAdd, Nat.reduceLT, Nat.reduceLeDiff, reduceIte, Nat.reduceEqDiff, reduceCtorEq, argEnv, eq_self, if_true, if_false]
        all_goals exact ⟨_, rfl⟩
      obtain ⟨q19, q21, q11, hlk, hlw⟩ := rule_facts x h h0 hu ht
      by_cases hpk : x.l.rule = ⟨#[80]⟩ ∧ gone x j ≠ []
      case pos =>
        have hp : (x.l.rule = ⟨#[80]⟩) = True := eq_true hpk.1
        have e0 := dlE_181 h h0 hu hpk.1 hpk.2
        have hpos : (0 : Int) < ((gone x j).length : Int) := by have := List.length_pos_iff.2 hpk.2; omega
        rw [e0] at q11
        simp only [c8, eTwo, q9, q10, q18, hd, q32, q16a, hlen, k0, k1, ha, rItem, ht, q19, q21, q11, hlk, hp, hpos, evX, Int.reduceEq, Int.reduceLT, Int.reduceLE, Nat.reduceMul, Nat.reduceMod, evW, fn_eq, evR, Nat.reduceAdd, Nat.reduceLT, Nat.reduceLeDiff, reduceIte, Nat.reduceEqDiff, reduceCtorEq, argEnv, eq_self, if_true, if_false]
        all_goals exact ⟨_, rfl⟩
      have e0 := dlE_0 h h0 hu hpk
      obtain ⟨q16b, q21b, hl2, hL, hV, hN⟩ := rule_more x h h0 hu ht e0
      rw [e0] at q11
      by_cases hr : x.l.rule = ⟨#[76]⟩
      case pos =>
        have hp : (x.l.rule = ⟨#[80]⟩) = False := eq_false (by rw [hr]; simp)
        have hr' : (x.l.rule = ⟨#[76]⟩) = True := eq_true hr
        rw [hN (by rw [hr]; simp)] at q11 q16b q21b hl2 hL
        rw [hL hr] at hl2
        simp only [c8, eTwo, q9, q10, q18, hd, q32, q16a, hlen, k0, k1, ha, rItem, ht, q19, q21, q11, hlk, hlw, hp, hr', q16b, q21b, hl2, hw, q13, evX, Int.reduceEq, Int.reduceLT, Int.reduceLE, Nat.reduceMul, Nat.reduceMod, evW, fn_eq, evR, Nat.reduceAdd, Nat.reduceLT, Nat.reduceLeDiff, reduceIte, Nat.reduceEqDiff, reduceCtorEq, argEnv, eq_self, if_true, if_false]
        all_goals exact ⟨_, rfl⟩
      have hr' : (x.l.rule = ⟨#[76]⟩) = False := eq_false hr
      by_cases hv : x.l.rule = ⟨#[86]⟩
      case pos =>
        have hp : (x.l.rule = ⟨#[80]⟩) = False := eq_false (by rw [hv]; simp)
        have hv' : (x.l.rule = ⟨#[86]⟩) = True := eq_true hv
        rw [hV hv] at q21b hl2
        simp only [List.length_nil, Int.natCast_zero] at hl2
        simp only [c8, eTwo, q9, q10, q18, hd, q32, q16a, hlen, k0, k1, ha, rItem, ht, q19, q21, q11, hlk, hp, hr', hv', q16b, q21b, hl2, evX, Int.reduceEq, Int.reduceLT, Int.reduceLE, Nat.reduceMul, Nat.reduceMod, evW, fn_eq, evR, Nat.reduceAdd, Nat.reduceLT, Nat.reduceLeDiff, reduceIte, Nat.reduceEqDiff, reduceCtorEq, argEnv, eq_self, if_true, if_false]
        all_goals exact ⟨_, rfl⟩
      have hv' : (x.l.rule = ⟨#[86]⟩) = False := eq_false hv
      rw [hN hv] at q11 q16b q21b
      have hpp := rule_P h h0 hr hv
      have hp : (x.l.rule = ⟨#[80]⟩) = True := eq_true hpp
      have hk : gone x j = [] := by
        cases hk : gone x j with
        | nil => rfl
        | cons a l => exact absurd ⟨hpp, by rw [hk]; simp⟩ hpk
      rw [hk] at q19 hlk
      simp only [List.length_nil, Int.natCast_zero] at hlk
      simp only [c8, eTwo, q9, q10, q18, hd, q32, q16a, hlen, k0, k1, ha, rItem, ht, q19, q21, q11, hlk, hp, hr', hv', q16b, q21b, q13, evX, Int.reduceEq, Int.reduceLT, Int.reduceLE, Nat.reduceMul, Nat.reduceMod, evW, fn_eq, evR, Nat.reduceAdd, Nat.reduceLT, Nat.reduceLeDiff, reduceIte, Nat.reduceEqDiff, reduceCtorEq, argEnv, eq_self, if_true, if_false]
      all_goals exact ⟨_, rfl⟩
    · have hl := eq_false hl0
      rcases in_or_out x.g i with k0 | ⟨k0, k1⟩ | ⟨j, u, rfl, hu⟩
      · simp only [c8, eTwo, q9, q10, q18, hd, q32, q16a, hl, hlen, k0, evX, Int.reduceEq, Int.reduceLT, Int.reduceLE, Nat.reduceMul, Nat.reduceMod, evW, fn_eq, evR, Nat.reduceAdd, Nat.reduceLT, Nat.reduceLeDiff, reduceIte, Nat.reduceEqDiff, reduceCtorEq, argEnv, eq_self, if_true, if_false]
        all_goals exact ⟨_, rfl⟩
      · simp only [c8, eTwo, q9, q10, q18, hd, q32, q16a, hl, hlen, k0, k1, evX, Int.reduceEq, Int.reduceLT, Int.reduceLE, Nat.reduceMul, Nat.reduceMod, evW, fn_eq, evR, Nat.reduceAdd, Nat.reduceLT, Nat.reduceLeDiff, reduceIte, Nat.reduceEqDiff, reduceCtorEq, argEnv, eq_self, if_true, if_false]
        all_goals exact ⟨_, rfl⟩
      have ha := aItem hu
      have hj := (List.getElem?_eq_some_iff.1 hu).1
      have k0 : ¬ (j : Int) < 0 := by omega
      have k1 : ¬ (x.g.length : Int) ≤ (j : Int) := by omega
      by_cases ht : u.type = 0
      case neg =>
        simp only [c8, eTwo, q9, q10, q18, hd, q32, q16a, hl, hlen, k0, k1, ha, rItem, ht, evX, Int.reduceEq, Int.reduceLT, Int.reduceLE, Nat.reduceMul, Nat.reduceMod, evW, fn_eq, evR, Nat.reduceAdd, Nat.reduceLT, Nat.reduceLeDiff, reduceIte, Nat.reduceEqDiff, reduceCtorEq, argEnv, eq_self, if_true, if_false]
        all_goals exact ⟨_, rfl⟩
      obtain ⟨q19, q21, q11, hlk, hlw⟩ := rule_facts x h h0 hu ht
      by_cases hpk : x.l.rule = ⟨#[80]⟩ ∧ gone x j ≠ []
      case pos =>
        have hp : (x.l.rule = ⟨#[80]⟩) = True := eq_true hpk.1
        have e0 := dlE_181 h h0 hu hpk.1 hpk.2
        have hpos : (0 : Int) < ((gone x j).length : Int) := by have := List.length_pos_iff.2 hpk.2; omega
        rw [e0] at q11
        simp only [c8, eTwo, q9, q10, q18, hd, q32, q16a, hl, hlen, k0, k1, ha, rItem, ht, q19, q21, q11, hlk, hp, hpos, evX, Int.reduceEq, Int.reduceLT, Int.reduceLE, Nat.reduceMul, Nat.reduceMod, evW, fn_eq, evR, Nat.reduceAdd, Nat.reduceLT, Nat.reduceLeDiff, reduceIte, Nat.reduceEqDiff, reduceCtorEq, argEnv, eq_self, if_true, if_false]
        all_goals exact ⟨_, rfl⟩
      have e0 := dlE_0 h h0 hu hpk
      obtain ⟨q16b, q21b, hl2, hL, hV, hN⟩ := rule_more x h h0 hu ht e0
      rw [e0] at q11
      by_cases hr : x.l.rule = ⟨#[76]⟩
      case pos =>
        have hp : (x.l.rule = ⟨#[80]⟩) = False := eq_false (by rw [hr]; simp)
        have hr' : (x.l.rule = ⟨#[76]⟩) = True := eq_true hr
        rw [hN (by rw [hr]; simp)] at q11 q16b q21b hl2 hL
        rw [hL hr] at hl2
        simp only [c8, eTwo, q9, q10, q18, hd, q32, q16a, hl, hlen, k0, k1, ha, rItem, ht, q19, q21, q11, hlk, hlw, hp, hr', q16b, q21b, hl2, hw, q13, evX, Int.reduceEq, Int.reduceLT, Int.reduceLE, Nat.reduceMul, Nat.reduceMod, evW, fn_eq, evR, Nat.reduceAdd, Nat.reduceLT, Nat.reduceLeDiff, reduceIte, Nat.reduceEqDiff, reduceCtorEq, argEnv, eq_self, if_true, if_false]
        all_goals exact ⟨_, rfl⟩
      have hr' : (x.l.rule = ⟨#[76]⟩) = False := eq_false hr
      by_cases hv : x.l.rule = ⟨#[86]⟩
      case pos =>
        have hp : (x.l.rule = ⟨#[80]⟩) = False := eq_false (by rw [hv]; simp)
        have hv' : (x.l.rule = ⟨#[86]⟩) = True := eq_true hv
        rw [hV hv] at q21b hl2
        simp only [List.length_nil, Int.natCast_zero] at hl2
        simp only [c8, eTwo, q9, q10, q18, hd, q32, q16a, hl, hlen, k0, k1, ha, rItem, ht, q19, q21, q11, hlk, hp, hr', hv', q16b, q21b, hl2, evX, Int.reduceEq, Int.reduceLT, Int.reduceLE, Nat.reduceMul, Nat.reduceMod, evW, fn_eq, evR, Nat.reduceAdd, Nat.reduceLT, Nat.reduceLeDiff, reduceIte, Nat.reduceEqDiff, reduceCtorEq, argEnv, eq_self, if_true, if_false]
        all_goals exact ⟨_, rfl⟩
      have hv' : (x.l.rule = ⟨#[86]⟩) = False := eq_false hv
      rw [hN hv] at q11 q16b q21b
      have hpp := rule_P h h0 hr hv
      have hp : (x.l.rule = ⟨#[80]⟩) = True := eq_true hpp
      have hk : gone x j = [] := by
        cases hk : gone x j with
        | nil => rfl
        | cons a l => exact absurd ⟨hpp, by rw [hk]; simp⟩ hpk
      rw [hk] at q19 hlk
      simp only [List.length_nil, Int.natCast_zero] at hlk
      simp only [c8, eTwo, q9, q10, q18, hd, q32, q16a, hl, hlen, k0, k1, ha, rItem, ht, q19, q21, q11, hlk, hp, hr', hv', q16b, q21b, q13, evX, Int.reduceEq, Int.reduceLT, Int.reduceLE, Nat.reduceMul, Nat.reduceMod, evW, fn_eq, evR, Nat.reduceAdd, Nat.reduceLT, Nat.reduceLeDiff, reduceIte, Nat.reduceEqDiff, reduceCtorEq, argEnv, eq_self, if_true, if_false]
      all_goals exact ⟨_, rfl⟩
theorem open_3 {a : AV} (h : ArgTy true [.int .i64, .int .i64, .int .i64] a) : ∃ n m k : Int, a = .agg [.int .i64 n, .int .i64 m, .int .i64 k] := by
  obtain ⟨bs, rfl, h⟩ := h
  simp only [HasL.eq_2, HasL.eq_1, Has] at h
  obtain ⟨_, _, rfl, ⟨n, rfl, _⟩, _, _, rfl, ⟨m, rfl, _⟩, _, _, rfl, ⟨k, rfl, _⟩, rfl⟩ := h
  exact ⟨n, m, k, rfl⟩
theorem open_S {a : AV} (h : ArgTy false [.str] a) : ∃ s : ByteArray, a = .str s := by
  have h : HasL [.str] [a] := h
  simp only [HasL.eq_2, HasL.eq_1, Has] at h
  obtain ⟨x, xs, e, ⟨s, rfl, _⟩, rfl⟩ := h
  simp only [List.cons.injEq, and_true] at e
  exact ⟨s, e⟩
end Go.Proofs.Ytbchmbddcdionaa.Code
namespace Go.Proofs.Ytbchmbddcdionaa.Pure
open Go.Proofs.Ytbchmbddcdionaa.Ev Go.Proofs.Ytbchmbddcdionaa.Code
theorem LogicRules (a0 : AV) (t0 : ArgTy true [.str, .int .i64, .sl [.str, .int .i64, .int .i64, .int .i64, .sl [.str, .int .i64, .int .i64], .int .i64, .bool, .bool], .sl [.str, .int .i64, .int .i64, .str], .str, .int .i64, .sl [.str, .int .i64, .int .i64, .int .i64, .sl [.str, .int .i64, .int .i64], .int .i64, .bool, .bool], .sl [.str, .int .i64, .int .i64, .str], .int .i64, .int .i64, .str, .sl [.int .i64, .str], .sl [.int .i64, .str]] a0) (a1 : AV) (t1 : ArgTy true [.int .i64, .int .i64, .int .i64] a1) (a2 : AV) (t2 : ArgTy false [.str] a2) : ∃ H', evC cprog 8 [a0, a1, a2] [] = some (.bool true, H') := by
  obtain ⟨x, rfl, hx⟩ := open_Two t0
  obtain ⟨p, t, i, rfl⟩ := open_3 t1
  obtain ⟨d, rfl⟩ := open_S t2
  exact f8 x hx p t i d
end Go.Proofs.Ytbchmbddcdionaa.Pure

