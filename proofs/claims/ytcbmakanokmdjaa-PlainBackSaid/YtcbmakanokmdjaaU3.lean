/- Texts of ours, joined into one file; each begins with its own remark. -/
import Derived.Test.YtcbmakanokmdjaaU2
import Derived.Test.YtcbmakanokmdjaaCodeB
import Derived.Test.YtcbmakanokmdjaaIb
/- plain: the place of a new item is one place (mathematics). -/
set_option linter.unusedSimpArgs false
set_option linter.unusedVariables false
namespace Go.Proofs.Ytcbmakanokmdjaa.Code
open Go.Proofs.Ytcbmakanokmdjaa.Ev

theorem sib_ord {b : Base} {f : List Item} (h : Right b f) {p : Int} {k k' : Nat} (hkk : k < k') (h1 : par b.types f k = p) (h2 : par b.types f k' = p) {x : Item} (hx : f[k']? = some x) : ordOk b.types f (k : Int) x = true := by
  have hk' := (List.getElem?_eq_some_iff.1 hx).1
  have hkl : k < f.length := by omega
  have hpth := pth_eq b.types f hkl
  have hcond : par b.types f k' < 0 ∨ par b.types f k' ∈ pth b.types f k := by
    by_cases h0 : par b.types f k' < 0
    · exact .inl h0
    · obtain ⟨q, hq⟩ : ∃ q : Nat, p = (q : Int) := ⟨p.toNat, by omega⟩
      rw [h2, hq]
      exact .inr (par_mem hkl (by rw [h1, hq]))
  have hc : (pth b.types f k)[nOf b.types f k']? = some (k : Int) := by
    unfold nOf
    rw [hpth, h1, h2]
    simp
  exact sib_far h hx (k' - 1 - k) k rfl hkk hcond (k : Int) hc
/-- ends of children, one behind the other -/
theorem end_rise {b : Base} {f : List Item} (h : Right b f) {p : Int} (hp : -1 ≤ p) {k k' : Nat} (hkk : k < k') (hk' : k' < f.length) (h1 : par b.types f k = p) (h2 : par b.types f k' = p) : endOf b.types f k ≤ k' := by
  apply Classical.byContradiction
  intro hc
  exact (next_child h hp (show k < f.length by omega) h1).1 k' hkk (by omega) h2
theorem fold_case (b : Base) (f : List Item) (t : Int) (s : ByteArray) : ∀ (l : List Nat) (a : Nat), l.foldl (atD b f t s) a = a ∨ ∃ k ∈ l, front b f t s k = true ∧ l.foldl (atD b f t s) a = endOf b.types f k
  | [], a => .inl rfl
  | k :: l, a => by
    rw [List.foldl_cons]
    rcases fold_case b f t s l (atD b f t s a k) with h | ⟨j, h1, h2, h3⟩
    · by_cases hf : front b f t s k = true
      · exact .inr ⟨k, List.mem_cons_self .., hf, by rw [h]; unfold atD; rw [if_pos hf]⟩
      · exact .inl (by rw [h]; unfold atD; rw [if_neg hf])
    · exact .inr ⟨j, List.mem_cons_of_mem _ h1, h2, h3⟩
theorem fold_ge (b : Base) (f : List Item) (t : Int) (s : ByteArray) : ∀ (l : List Nat) (a : Nat), (∀ k ∈ l, a ≤ endOf b.types f k) → l.Pairwise (fun k k' => endOf b.types f k ≤ endOf b.types f k') → a ≤ l.foldl (atD b f t s) a ∧ ∀ k ∈ l, front b f t s k = true → endOf b.types f k ≤ l.foldl (atD b f t s) a
  | [], a, _, _ => ⟨Nat.le_refl _, fun k h => by cases h⟩
  | k :: l, a, h1, h2 => by
    rw [List.pairwise_cons] at h2
    rw [List.foldl_cons]
    have ha : a ≤ atD b f t s a k := by
      unfold atD
      split
      · exact h1 k (List.mem_cons_self ..)
      · exact Nat.le_refl _
    obtain ⟨i1, i2⟩ := fold_ge b f t s l (atD b f t s a k) (fun j hj => by
      unfold atD
      split
      · exact h2.1 j hj
      · exact h1 j (List.mem_cons_of_mem _ hj)) h2.2
    refine ⟨by omega, fun j hj hf => ?_⟩
    rcases List.mem_cons.1 hj with rfl | hj
    · have e : atD b f t s a j = endOf b.types f j := by unfold atD; rw [if_pos hf]
      rw [e] at i1 ⊢
      exact i1
    · exact i2 j hj hf
/-- the place that is found -/
theorem spot_of {b : Base} {f : List Item} {p t : Int} {d : ByteArray} (R : Right b f) (lo : -1 ≤ p) (hi : p < (f.length : Int)) (fit : fits b.types ⟨t, d⟩ = true) (ht : (p < 0 ∧ t = 0) ∨ (0 ≤ p ∧ tpar b.types t = typ f p)) (htw : twice b f p t (keyOf (tyOf b.types t) d) = false) : Spot b f p t d (placeN b f p t d) := by
  have hge := fold_ge b f t (keyOf (tyOf b.types t) d) (chl b f p) (p + 1).toNat (fun k hk => by
    have hm := mem_chTo.1 hk
    have := (endOf_is b.types f hm.1).lt
    have := par_lt b.types f k
    omega) (List.pairwise_iff_getElem.2 fun i j hi hj hij => by
      have hlt := List.pairwise_iff_getElem.1 (chl_rise b f p) i j hi hj hij
      have m1 := mem_chTo.1 (List.getElem_mem hi)
      have m2 := mem_chTo.1 (List.getElem_mem hj)
      have := end_rise R lo hlt m2.1 m1.2 m2.2
      have := (endOf_is b.types f m2.1).lt
      omega)
  have hcs := fold_case b f t (keyOf (tyOf b.types t) d) (chl b f p) (p + 1).toNat
  have hN : placeN b f p t d = (chl b f p).foldl (atD b f t (keyOf (tyOf b.types t) d)) (p + 1).toNat := rfl
  rw [← hN] at hge hcs
  generalize placeN b f p t d = n at *
  refine ⟨R, lo, hi, ?_, ?_, fun hn hp => ?_, fit, ht, fun hu k hk hp hty hkey => ?_⟩
  · rcases hcs with h | ⟨k, h1, h2, h3⟩
    · omega
    · rw [h3]; exact (endOf_is b.types f (mem_chTo.1 h1).1).le
  · rcases hcs with h | ⟨k, h1, h2, h3⟩
    · exact .inl (by omega)
    · exact .inr ⟨k, (mem_chTo.1 h1).1, (mem_chTo.1 h1).2, h3, h2⟩
  · cases hf : front b f t (keyOf (tyOf b.types t) d) n with
    | false => rfl
    | true =>
      have := hge.2 n (mem_chTo.2 ⟨hn, hp⟩) hf
      have := (endOf_is b.types f hn).lt
      omega
  · unfold twice at htw
    rw [List.any_eq_false] at htw
    refine htw k (mem_chTo.2 ⟨hk, hp⟩) ?_
    simp [isTwin, hty, hu, hkey]
/-- there is one place alone -/
theorem Spot.uniq {b : Base} {f : List Item} {p t : Int} {d : ByteArray} {n n' : Nat} (S : Spot b f p t d n) (S' : Spot b f p t d n') : n = n' := by
  have key : ∀ {n n' : Nat}, Spot b f p t d n → Spot b f p t d n' → ¬ n < n' := fun {n n'} S S' hlt => by
    have R := S.R
    have hg := S.gt
    rcases S'.at' with h | ⟨c', h1, h2, h3, h4⟩
    · omega
    · have he' := endOf_is b.types f h1
      have hlt' := he'.lt
      have hpc := par_lt b.types f c'
      have hge : n ≤ c' := by
        apply Classical.byContradiction
        intro hc
        rcases S.at' with h | ⟨c, g1, g2, g3, g4⟩
        · omega
        · have hc1 := (endOf_is b.types f g1).lt
          rcases Nat.lt_trichotomy c c' with e | e | e
          · have := end_rise R S.lo e h1 g2 h2; omega
          · subst e; omega
          · have := end_rise R S.lo e g1 h2 g2; omega
      have hnl : n < f.length := by omega
      have hke : c' < kidEnd b f p := by
        apply Classical.byContradiction
        intro hc
        have hm : c' ∈ chl b f p := mem_chTo.2 ⟨h1, h2⟩
        rw [kid_last R S.lo S.hi] at hm
        have := (mem_chTo.1 hm).1
        omega
      have hpn : par b.types f n = p := by
        rcases S.at' with h | ⟨c, g1, g2, g3, g4⟩
        · exact (kid_first R S.lo S.hi h).2.2.1 (by omega)
        · exact (next_child R S.lo g1 g2).2 n g3 hnl (kid_sub S.lo S.hi hg (by omega))
      have hnf := S.next hnl hpn
      by_cases e : n = c'
      · subst e; rw [h4] at hnf; cases hnf
      · have := front_mono R (show n < c' by omega) h1 hpn h2 h4
        rw [this] at hnf; cases hnf
  have h1 := key S S'
  have h2 := key S' S
  omega
end Go.Proofs.Ytcbmakanokmdjaa.Code

/- plain: a Unique leaf goes back to its place (mathematics). -/
set_option linter.unusedSimpArgs false
set_option linter.unusedVariables false
set_option linter.unusedSectionVars false
namespace Go.Proofs.Ytcbmakanokmdjaa.Code
open Go.Proofs.Ytcbmakanokmdjaa.Ev

theorem unique_key {t : Ty} (h : tyOk t = true) (hu : t.unique = true) : 0 ≤ t.key := by
  simp only [tyOk, Bool.and_eq_true] at h
  apply Classical.byContradiction
  intro hc
  have hk := h.2
  unfold keyOk at hk
  split at hk
  · rw [hu] at hk; cases hk
  · simp only [Bool.and_eq_true, decide_eq_true_eq] at hk
    exact hc hk.1
theorem uniq_ord {t : Ty} (h : tyOk t = true) (hu : t.unique = true) {a c : ByteArray} (ho : inOrd t a c = true) : bLt (keyOf t a) (keyOf t c) = true := by
  have hk := unique_key h hu
  simp only [inOrd, hu, Bool.not_true, Bool.and_false, Bool.or_false, Bool.or_eq_true, decide_eq_true_eq] at ho
  rcases ho with ho | ho
  · omega
  · exact ho
theorem lt_not {s k : ByteArray} (h : bLt s k = true) : bLt k s = false ∧ k ≠ s := by
  have := bLt_tri s k
  rw [h] at this
  simp only [Bool.true_or] at this
  refine ⟨?_, fun e => ?_⟩
  · cases hc : bLt k s with
    | false => rfl
    | true => rw [hc] at this; cases this
  · rw [e, bLt_irrefl] at h; cases h
section
variable {b : Base} {f : List Item} (R : Right b f) {i : Nat} {x : Item} (hx : f[i]? = some x) (he : endOf b.types f i = i + 1) (hu : (tyOf b.types x.type).unique = true)
include R hx he hu
theorem leaf_kept : Kept b.types f (f.take i ++ f.drop (i + 1)) (fun k => k ≠ i) (fun k => if k < i then k else k - 1) := by
  have K := del_kept R (List.getElem?_eq_some_iff.1 hx).1
  rw [he] at K
  refine ⟨fun k y hk hy => ?_, fun j hj => ?_, fun k k' h1 h2 h3 h4 => ?_, fun k p h1 h2 h3 => ?_⟩
  · have := K.at' k y (by omega) hy
    by_cases hc : k < i
    · rw [if_pos hc] at this ⊢; exact this
    · rw [if_neg hc] at this ⊢
      rw [show k - (i + 1 - i) = k - 1 by omega] at this; exact this
  · obtain ⟨k, y, h1, h2, h3⟩ := K.of j hj
    refine ⟨k, y, by omega, h2, ?_⟩
    by_cases hc : k < i
    · rw [if_pos hc] at h3 ⊢; exact h3
    · rw [if_neg hc] at h3 ⊢; omega
  · split <;> split <;> omega
  · have := K.par k p (by omega) h2 h3
    omega
/-- siblings of a Unique item -/
theorem leaf_front {k : Nat} (hk : k < f.length) (hp : par b.types f k = par b.types f i) : (k < i → front b f x.type (keyOf (tyOf b.types x.type) x.data) k = true) ∧ (i < k → front b f x.type (keyOf (tyOf b.types x.type) x.data) k = false) ∧ (k ≠ i → typ f (k : Int) = x.type → kKey b f x.type k ≠ keyOf (tyOf b.types x.type) x.data) := by
  obtain ⟨_, kx, t, h0, hkx, _, ht, hty, _⟩ := R.item (List.getElem?_eq_some_iff.1 hx).1
  rw [hx] at h0; cases h0
  have htt : tyOf b.types x.type = t := by rw [hkx, tyOf_at ht]
  rw [htt] at hu
  have low : k < i → typ f (k : Int) < x.type ∨ (typ f (k : Int) = x.type ∧ bLt (kKey b f x.type k) (keyOf (tyOf b.types x.type) x.data) = true) := fun h => by
    have ho := sib_ord R h hp rfl hx
    simp only [ordOk, Bool.or_eq_true, Bool.and_eq_true, decide_eq_true_eq] at ho
    rcases ho with ho | ⟨ho, hi⟩
    · exact .inl ho
    · rw [htt] at hi
      refine .inr ⟨ho, ?_⟩
      unfold kKey
      rw [htt]
      exact uniq_ord hty hu hi
  have high : i < k → x.type < typ f (k : Int) ∨ (typ f (k : Int) = x.type ∧ bLt (keyOf (tyOf b.types x.type) x.data) (kKey b f x.type k) = true) := fun h => by
    obtain ⟨y, hy⟩ : ∃ y, f[k]? = some y := ⟨_, List.getElem?_eq_getElem hk⟩
    have ho := sib_ord R h rfl hp hy
    simp only [ordOk, Bool.or_eq_true, Bool.and_eq_true, decide_eq_true_eq, typ_at hx, dat_at hx] at ho
    rw [typ_at hy]
    rcases ho with ho | ⟨ho, hi⟩
    · exact .inl ho
    · rw [← ho, htt] at hi
      refine .inr ⟨ho.symm, ?_⟩
      unfold kKey
      rw [htt, dat_at hy]
      exact uniq_ord hty hu hi
  refine ⟨fun h => ?_, fun h => ?_, fun h ht' => ?_⟩
  · simp only [front, Bool.or_eq_true, Bool.and_eq_true, decide_eq_true_eq]
    rcases low h with h1 | ⟨h1, h2⟩
    · exact .inl h1
    · exact .inr ⟨h1, .inl h2⟩
  · simp only [front, Bool.or_eq_false_iff, Bool.and_eq_false_iff, decide_eq_false_iff_not]
    rcases high h with h1 | ⟨h1, h2⟩
    · exact ⟨by omega, .inl (by omega)⟩
    · obtain ⟨q1, q2⟩ := lt_not h2
      exact ⟨by omega, .inr ⟨q1, .inl q2⟩⟩
  · rcases Nat.lt_or_gt_of_ne h with h1 | h1
    · rcases low h1 with h2 | ⟨_, h2⟩
      · omega
      · exact fun e => (lt_not h2).2 e.symm
    · rcases high h1 with h2 | ⟨_, h2⟩
      · omega
      · exact (lt_not h2).2
theorem leaf_spot : Spot b (f.take i ++ f.drop (i + 1)) (par b.types f i) x.type x.data i := by
  have hi := (List.getElem?_eq_some_iff.1 hx).1
  have K := leaf_kept R hx he hu
  have Rg : Right b (f.take i ++ f.drop (i + 1)) := by
    have := del_right R hi
    rw [he] at this
    exact this
  have hgl : (f.take i ++ f.drop (i + 1)).length = f.length - 1 := by simp; omega
  have hpl := par_lt b.types f i
  have hleaf : ∀ k, k < f.length → par b.types f k ≠ (i : Int) := fun k hk hp => by
    have hik : i < k := by have := par_lt b.types f k; omega
    have hm := way_between (Nat.le_refl _) R.ok k hk (i : Int) (par_mem hk hp) (i + 1) (by omega) (by omega)
    have hE := endOf_is b.types f hi
    rw [he] at hE
    exact hE.no (by omega) hm
  -- children there and here
  have kids : ∀ k, k < f.length → k ≠ i → (par b.types (f.take i ++ f.drop (i + 1)) (if k < i then k else k - 1) = par b.types f i ↔ par b.types f k = par b.types f i) := fun k hk hne => by
    obtain ⟨y, hy⟩ : ∃ y, f[k]? = some y := ⟨_, List.getElem?_eq_getElem hk⟩
    rcases Kept.par' R K hy hne with ⟨h1, h2⟩ | ⟨q, h1, h2, h3, h4, h5⟩
    · rw [h1, h2]
    · rw [h1, h4]
      constructor
      · intro h
        split at h
        · exact h
        · omega
      · intro h
        rw [if_pos (by omega)]; exact h
  have tyk : ∀ k, k < f.length → k ≠ i → typ (f.take i ++ f.drop (i + 1)) (((if k < i then k else k - 1 : Nat)) : Int) = typ f (k : Int) ∧ dat (f.take i ++ f.drop (i + 1)) (((if k < i then k else k - 1 : Nat)) : Int) = dat f (k : Int) := fun k hk hne => by
    obtain ⟨y, hy⟩ : ∃ y, f[k]? = some y := ⟨_, List.getElem?_eq_getElem hk⟩
    have := K.at' k y hne hy
    exact ⟨by rw [typ_at this, typ_at hy], by rw [dat_at this, dat_at hy]⟩
  have frk : ∀ k, k < f.length → k ≠ i → front b (f.take i ++ f.drop (i + 1)) x.type (keyOf (tyOf b.types x.type) x.data) (if k < i then k else k - 1) = front b f x.type (keyOf (tyOf b.types x.type) x.data) k := fun k hk hne => by
    obtain ⟨h1, h2⟩ := tyk k hk hne
    unfold front kKey
    rw [h1, h2]
  refine ⟨Rg, hpl.1, by omega, by omega, ?_, fun hn hp => ?_, ?_, ?_, fun hu' j hj hp hty => ?_⟩
  · -- where it stood
    by_cases h0 : (i : Int) = par b.types f i + 1
    · exact .inl h0
    · refine .inr ?_
      -- the child in front of it
      have hpl2 : par b.types f i < (f.length : Int) := by omega
      obtain ⟨s, hs⟩ : ∃ s : Nat, (s : Int) = par b.types f i + 1 := ⟨(par b.types f i + 1).toNat, by omega⟩
      have hke : i < kidEnd b f (par b.types f i) := by
        have hm : i ∈ chl b f (par b.types f i) := mem_chTo.2 ⟨hi, rfl⟩
        rw [kid_last R hpl.1 hpl2] at hm
        exact (mem_chTo.1 hm).1
      have hs1 := (kid_first R hpl.1 hpl2 hs).2.2.1 (by omega)
      -- walk from the first child on
      have walk : ∀ (m k : Nat), i - k = m → k < i → par b.types f k = par b.types f i → ∃ c, c < i ∧ par b.types f c = par b.types f i ∧ endOf b.types f c = i := by
        intro m
        induction m using Nat.strongRecOn with
        | ind m ih =>
          intro k hm hk hp
          have hkl : k < f.length := by omega
          have h1 := end_rise R hpl.1 hk hi hp rfl
          have h2 := (endOf_is b.types f hkl).lt
          by_cases e : endOf b.types f k = i
          · exact ⟨k, hk, hp, e⟩
          · have h3 := (next_child R hpl.1 hkl hp).2 _ rfl (by omega) (kid_sub hpl.1 hpl2 (by have := par_lt b.types f k; omega) (by omega))
            exact ih (i - endOf b.types f k) (by omega) _ rfl (by omega) h3
      obtain ⟨c, c1, c2, c3⟩ := walk _ s rfl (by omega) hs1
      have hcl : c < f.length := by omega
      refine ⟨c, by omega, ?_, ?_, ?_⟩
      · have := (kids c hcl (by omega)).2 c2
        rw [if_pos c1] at this; exact this
      · refine IsEnd.uniq ⟨c1, by omega, fun k h1 h2 => ?_, fun hl hm => ?_⟩ (endOf_is b.types (f.take i ++ f.drop (i + 1)) (i := c) (by omega))
        · obtain ⟨y, hy⟩ : ∃ y, f[k]? = some y := ⟨_, List.getElem?_eq_getElem (show k < f.length by omega)⟩
          have hpp := Kept.pth' R K k k (Nat.le_refl _) y hy (by omega)
          simp only [if_pos h2] at hpp
          rw [hpp]
          have hE := endOf_is b.types f hcl
          rw [c3] at hE
          exact List.mem_map.2 ⟨(c : Int), hE.all k h1 h2, by simp [c1]⟩
        · have hl1 : i + 1 < f.length := by omega
          obtain ⟨y, hy⟩ : ∃ y, f[i + 1]? = some y := ⟨_, List.getElem?_eq_getElem hl1⟩
          have hpp := Kept.pth' R K (i + 1) (i + 1) (Nat.le_refl _) y hy (by omega)
          simp only [if_neg (show ¬ i + 1 < i by omega), Nat.add_sub_cancel] at hpp
          rw [hpp] at hm
          obtain ⟨a, ha, hae⟩ := List.mem_map.1 hm
          have hb := pth_bound ha
          obtain ⟨q, rfl⟩ : ∃ q : Nat, a = (q : Int) := ⟨a.toNat, by omega⟩
          simp only [Int.toNat_natCast] at hae
          have hqc : q = c := by
            split at hae
            · omega
            · have hqi : q ≠ i := fun e => by
                subst e
                have hE := endOf_is b.types f hi
                rw [he] at hE
                exact hE.no hl1 ha
              omega
          subst hqc
          have hm2 := way_between (Nat.le_refl _) R.ok (i + 1) hl1 (q : Int) ha i (by omega) (by omega)
          have hE := endOf_is b.types f hcl
          rw [c3] at hE
          exact hE.no hi hm2
      · have := frk c hcl (by omega)
        rw [if_pos c1] at this
        rw [this]
        exact (leaf_front R hx he hu hcl c2).1 c1
  · have hl1 : i + 1 < f.length := by omega
    have h1 := kids (i + 1) hl1 (by omega)
    rw [if_neg (by omega), Nat.add_sub_cancel] at h1
    have h2 := frk (i + 1) hl1 (by omega)
    rw [if_neg (by omega), Nat.add_sub_cancel] at h2
    rw [h2]
    exact (leaf_front R hx he hu hl1 (h1.1 hp)).2.1 (by omega)
  · exact R.fits i x hx
  · obtain ⟨_, kx, t, h0, hkx, _, ht, _⟩ := R.item hi
    rw [hx] at h0; cases h0
    rcases R.par hx hkx ht with ⟨a1, a2, a3⟩ | ⟨q, a1, a2, _, a4, _, a6⟩
    · exact .inl ⟨by omega, by rw [hkx, a3]; rfl⟩
    · refine .inr ⟨by omega, ?_⟩
      have := (tyk q (by omega) (by omega)).1
      rw [if_pos a2] at this
      rw [hkx, tpar_at ht, a1, this, a6]
  · obtain ⟨k, y, h1, h2, h3⟩ := K.of j hj
    have hkl := (List.getElem?_eq_some_iff.1 h2).1
    rw [← h3] at hp hty ⊢
    have hp' := (kids k hkl h1).1 hp
    obtain ⟨e1, e2⟩ := tyk k hkl h1
    rw [e1] at hty
    have := (leaf_front R hx he hu hkl hp').2.2 h1 hty
    unfold kKey at this ⊢
    rw [e2]
    exact this
end
end Go.Proofs.Ytcbmakanokmdjaa.Code

/- plain: all functions are held, by the kernel's look or by a proof of their own. -/
set_option linter.unusedSimpArgs false
set_option linter.unusedVariables false
namespace Go.Proofs.Ytcbmakanokmdjaa.Code
open Go.Proofs.Ytcbmakanokmdjaa.Ev

theorem cprog_sound {f : Nat} {c : CFn} (h : cprog f = some c) : okFn Go.Proofs.Try.prog f c = true ∨ UserOk Go.Proofs.Try.prog f c := by
  rcases cprog_ok h with h | h
  · exact .inl h
  · simp only [utab, List.mem_cons, Prod.mk.injEq, List.not_mem_nil, or_false] at h
    obtain ⟨rfl, rfl⟩ := h
    exact .inr (userIns rfl rfl rfl rfl)
end Go.Proofs.Ytcbmakanokmdjaa.Code

/- The law PlainInserts is true. -/
set_option linter.unusedSimpArgs false
set_option linter.unusedVariables false
namespace Go.Proofs.Ytcbmakanokmdjaa.Code
open Go.Proofs.Ytcbmakanokmdjaa.Ev Go.RowKit

end Go.Proofs.Ytcbmakanokmdjaa.Code
namespace Go.Proofs.Ytcbmakanokmdjaa.Pure
open Go.Proofs.Ytcbmakanokmdjaa.Ev Go.Proofs.Ytcbmakanokmdjaa.Code
end Go.Proofs.Ytcbmakanokmdjaa.Pure

/- The law PlainBack is true. -/
set_option linter.unusedSimpArgs false
set_option linter.unusedVariables false
namespace Go.Proofs.Ytcbmakanokmdjaa.Code
open Go.Proofs.Ytcbmakanokmdjaa.Ev Go.RowKit

theorem right_err {b : Base} {f : List Item} (R : Right b f) {i : Nat} (hi : i < f.length) : errF b f [(i : Int)] = 0 := by
  unfold errF
  rw [if_pos R.valid, if_pos R.forest, if_neg]
  simp [outOf]
  omega
theorem right_err0 {b : Base} {f : List Item} (R : Right b f) : errF b f [] = 0 := by
  unfold errF
  rw [if_pos R.valid, if_pos R.forest]
  simp
theorem f28 (b : Base) (f : List Item) (R : Right b f) (i : Nat) (hi : i < f.length) (H : Heap) : cal (evC cprog) false 28 [eBase b, eItems f, .int .i64 (i : Int)] H = some (.tup [.int .i64 (endOf b.types f i : Int), .int .i64 0], H) := by
  rw [cal_of at28]
  have h37 := f37 b R.base f (.ref (H.length + 1) 0 1 0 1) rfl [(i : Int)] (by simp) (H ++ [bBase b, bI i]) (one_slat H i [bBase b])
  rw [right_err R hi] at h37
  have h40 := fun K => f40 b f R i hi K
  simp only [eBase, bBase, bI] at h37 h40
  simp only [c28, eBase, h37, h40, evX, Int.reduceEq, Int.reduceLT, Int.reduceLE, Nat.reduceMul, Nat.reduceMod, evW, fn_eq, evR, Nat.reduceAdd, Nat.reduceLT, Nat.reduceLeDiff, reduceIte, Nat.reduceEqDiff, reduceCtorEq, argEnv, eq_self, if_true, if_false]
  repeat' ((first | rw [guardK_cases] | rw [condK_bool] | rw [guardD_cases]); split <;> simp only [c28, eBase, h37, h40, evX, Int.reduceEq, Int.reduceLT, Int.reduceLE, Nat.reduceMul, Nat.reduceMod, evW, evR, Nat.reduceAdd, Nat.reduceLT, Nat.reduceLeDiff, reduceIte, Nat.reduceEqDiff, reduceCtorEq, argEnv, eq_self, if_true, if_false, *])
theorem f29 (b : Base) (f : List Item) (R : Right b f) (i : Nat) (hi : i < f.length) (H : Heap) : cal (evC cprog) false 29 [eBase b, eItems f, .int .i64 (i : Int)] H = some (.tup [.int .i64 (par b.types f i), .int .i64 0], H) := by
  rw [cal_of at29]
  have h37 := f37 b R.base f (.ref (H.length + 1) 0 1 0 1) rfl [(i : Int)] (by simp) (H ++ [bBase b, bI i]) (one_slat H i [bBase b])
  rw [right_err R hi] at h37
  have h53 := fun K => f53 b f R i hi K
  simp only [eBase, bBase, bI] at h37 h53
  simp only [c29, eBase, h37, h53, evX, Int.reduceEq, Int.reduceLT, Int.reduceLE, Nat.reduceMul, Nat.reduceMod, evW, fn_eq, evR, Nat.reduceAdd, Nat.reduceLT, Nat.reduceLeDiff, reduceIte, Nat.reduceEqDiff, reduceCtorEq, argEnv, eq_self, if_true, if_false]
  repeat' ((first | rw [guardK_cases] | rw [condK_bool] | rw [guardD_cases]); split <;> simp only [c29, eBase, h37, h53, evX, Int.reduceEq, Int.reduceLT, Int.reduceLE, Nat.reduceMul, Nat.reduceMod, evW, evR, Nat.reduceAdd, Nat.reduceLT, Nat.reduceLeDiff, reduceIte, Nat.reduceEqDiff, reduceCtorEq, argEnv, eq_self, if_true, if_false, *])
/-- what an insertion gives -/
theorem ins_back {b : Base} (hb : b.Ok) {f : List Item} {p t : Int} {d : ByteArray} (h : insE b f p t d = 0) : ∃ n : Nat, insN b f p t d = (n : Int) ∧ insL b f p t d = insX f t d n ∧ Right b (insX f t d n) ∧ n < (insX f t d n).length ∧ delR b (insX f t d n) (n : Int) = f := by
  have h0 := h
  unfold insE at h
  split at h
  case isFalse he => exact absurd h he
  rename_i he
  split at h
  · cases h
  rename_i h200
  obtain ⟨R, hg, htw, hn⟩ := place_ok hb he
  obtain ⟨q1, q2, q3, q4⟩ := argOk_at hg
  have S := spot_of R q1 q2 q3 q4 htw
  have RX := S.right (by omega)
  have hl := insX_len (t := t) (d := d) S.le
  refine ⟨placeN b f p t d, if_pos h0, if_pos h0, RX, by omega, ?_⟩
  unfold delR
  rw [if_pos (right_err RX (by omega)), Int.toNat_natCast, S.leaf, S.back]
/-- a Unique leaf that was taken out goes back -/
theorem leaf_ins {b : Base} {f : List Item} (R : Right b f) {i : Nat} {x : Item} (hx : f[i]? = some x) (he : endOf b.types f i = i + 1) (hu : (tyOf b.types x.type).unique = true) : insE b (f.take i ++ f.drop (i + 1)) (par b.types f i) x.type x.data = 0 ∧ insN b (f.take i ++ f.drop (i + 1)) (par b.types f i) x.type x.data = (i : Int) ∧ insL b (f.take i ++ f.drop (i + 1)) (par b.types f i) x.type x.data = f := by
  have S := leaf_spot R hx he hu
  have hi := (List.getElem?_eq_some_iff.1 hx).1
  have hl := R.len
  have htw : twice b (f.take i ++ f.drop (i + 1)) (par b.types f i) x.type (keyOf (tyOf b.types x.type) x.data) = false := by
    unfold twice
    rw [List.any_eq_false]
    intro k hk
    have hm := mem_chTo.1 hk
    simp only [isTwin, hu, Bool.true_and, Bool.and_eq_true, decide_eq_true_eq, not_and]
    intro ht
    exact S.one hu k hm.1 hm.2 ht
  have S2 := spot_of S.R S.lo S.hi S.fit S.typ htw
  have hn : placeN b (f.take i ++ f.drop (i + 1)) (par b.types f i) x.type x.data = i := (S.uniq S2).symm
  have hg : argOk b (f.take i ++ f.drop (i + 1)) (par b.types f i) x.type x.data = true := by
    simp only [argOk, Bool.and_eq_true, decide_eq_true_eq]
    refine ⟨⟨⟨S.lo, S.hi⟩, S.fit⟩, ?_⟩
    rcases S.typ with ⟨q1, q2⟩ | ⟨q1, q2⟩
    · rw [if_pos q1]; exact decide_eq_true q2
    · rw [if_neg (by omega)]; exact decide_eq_true q2
  have hp : placeE b (f.take i ++ f.drop (i + 1)) (par b.types f i) x.type x.data = 0 := by
    unfold placeE
    rw [if_pos (right_err0 S.R), if_pos hg, htw]; rfl
  have hgl : (f.take i ++ f.drop (i + 1)).length = f.length - 1 := by simp; omega
  have hE : insE b (f.take i ++ f.drop (i + 1)) (par b.types f i) x.type x.data = 0 := by
    unfold insE
    rw [if_pos hp, if_neg (by omega)]
  refine ⟨hE, by unfold insN; rw [if_pos hE, hn], ?_⟩
  unfold insL
  rw [if_pos hE, hn, List.take_left' (by rw [List.length_take]; omega), List.drop_left' (by rw [List.length_take]; omega)]
  obtain ⟨x1, x2⟩ := List.getElem?_eq_some_iff.1 hx
  conv => rhs; rw [← List.take_append_drop i f, List.drop_eq_getElem_cons x1, x2]
end Go.Proofs.Ytcbmakanokmdjaa.Code

/- The law PlainBack is true: the walk. -/
set_option linter.unusedSimpArgs false
set_option linter.unusedVariables false
namespace Go.Proofs.Ytcbmakanokmdjaa.Code
open Go.Proofs.Ytcbmakanokmdjaa.Ev Go.RowKit

set_option maxHeartbeats 4000000 in
theorem f8 (b : Base) (hb : b.Ok) (f : List Item) (hf : f.length < 9223372036854775807) (p t i : Int) (d : ByteArray) : ∃ H', evC cprog 8 [eBase b, eItems f, .agg [.int .i64 p, .int .i64 t, .int .i64 i, .str d]] [] = some (.bool true, H') := by
  have h9 := f9 b hb f hf
  have h10 := f10
  have h26 := f26 b hb f hf p t d
  have h22 := fun K => f22 b hb f hf .nils [] (by simp) K (nil_slat K)
  have hlen := (sItems [] f).len
  simp only [List.length_map] at hlen
  simp only [eBase, eLIE] at h9 h26 h22
  rw [evC_fn at8]
  cases hs : small b f with
  | false =>
    simp only [c8, eBase, cells_eItems, isTup_eItems, h9, h10, hs, evX, Int.reduceEq, Int.reduceLT, Int.reduceLE, Nat.reduceMul, Nat.reduceMod, evW, fn_eq, evR, Nat.reduceAdd, Nat.reduceLT, Nat.reduceLeDiff, reduceIte, Nat.reduceEqDiff, reduceCtorEq, argEnv, eq_self, if_true, if_false]
    repeat' ((first | rw [guardK_cases] | rw [condK_bool] | rw [guardD_cases]); split <;> simp only [c8, eBase, cells_eItems, isTup_eItems, h9, h10, hs, evX, Int.reduceEq, Int.reduceLT, Int.reduceLE, Nat.reduceMul, Nat.reduceMod, evW, evR, Nat.reduceAdd, Nat.reduceLT, Nat.reduceLeDiff, reduceIte, Nat.reduceEqDiff, reduceCtorEq, argEnv, eq_self, if_true, if_false, *])
    all_goals exact ⟨_, rfl⟩
  | true =>
    by_cases hd : (100 : Int) < (d.size : Int)
    · simp only [c8, eBase, cells_eItems, isTup_eItems, h9, h10, hs, hd, evX, Int.reduceEq, Int.reduceLT, Int.reduceLE, Nat.reduceMul, Nat.reduceMod, evW, fn_eq, evR, Nat.reduceAdd, Nat.reduceLT, Nat.reduceLeDiff, reduceIte, Nat.reduceEqDiff, reduceCtorEq, argEnv, eq_self, if_true, if_false]
      repeat' ((first | rw [guardK_cases] | rw [condK_bool] | rw [guardD_cases]); split <;> simp only [c8, eBase, cells_eItems, isTup_eItems, h9, h10, hs, hd, evX, Int.reduceEq, Int.reduceLT, Int.reduceLE, Nat.reduceMul, Nat.reduceMod, evW, evR, Nat.reduceAdd, Nat.reduceLT, Nat.reduceLeDiff, reduceIte, Nat.reduceEqDiff, reduceCtorEq, argEnv, eq_self, if_true, if_false, *])
      all_goals exact ⟨_, rfl⟩
    by_cases he : errF b f [] = 0
    · have R := (errF_zero hb he).1
      rw [he] at h22
      have hl := small_len hs
      have hsame : same f f = true := tell_pos rfl
      have h14 := f14 f f hf
      rw [hsame] at h14
      by_cases hE : insE b f p t d = 0
      · obtain ⟨n, n1, n2, n3, n4, n5⟩ := ins_back hb hE
        rw [n1, n2, hE] at h26
        have h11x := f11 b hb (insX f t d n)
        rw [n3.valid, n3.forest] at h11x
        have h15x := f15 b hb (insX f t d n) (by have := n3.len; omega) (n : Int)
        rw [n5, right_err n3 n4] at h15x
        simp only [eBase, eLE, bEr, Bool.and_self, if_true] at h11x h15x
        clear n1 n2 n3 n5 hE
        generalize insX f t d n = X at *

        by_cases j0 : i < 0
        · simp only [c8, eBase, cells_eItems, isTup_eItems, h9, h10, hs, hd, h22, h26, h11x, h15x, h14, j0, evX, Int.reduceEq, Int.reduceLT, Int.reduceLE, Nat.reduceMul, Nat.reduceMod, evW, fn_eq, evR, Nat.reduceAdd, Nat.reduceLT, Nat.reduceLeDiff, reduceIte, Nat.reduceEqDiff, reduceCtorEq, argEnv, eq_self, if_true, if_false]
          repeat' ((first | rw [guardK_cases] | rw [condK_bool] | rw [guardD_cases]); split <;> simp only [c8, eBase, cells_eItems, isTup_eItems, h9, h10, hs, hd, h22, h26, h11x, h15x, h14, j0, evX, Int.reduceEq, Int.reduceLT, Int.reduceLE, Nat.reduceMul, Nat.reduceMod, evW, evR, Nat.reduceAdd, Nat.reduceLT, Nat.reduceLeDiff, reduceIte, Nat.reduceEqDiff, reduceCtorEq, argEnv, eq_self, if_true, if_false, *])
          all_goals exact ⟨_, rfl⟩
        by_cases j1 : (f.length : Int) ≤ i
        · simp only [c8, eBase, cells_eItems, isTup_eItems, h9, h10, hs, hd, h22, h26, h11x, h15x, h14, hlen, j0, j1, evX, Int.reduceEq, Int.reduceLT, Int.reduceLE, Nat.reduceMul, Nat.reduceMod, evW, fn_eq, evR, Nat.reduceAdd, Nat.reduceLT, Nat.reduceLeDiff, reduceIte, Nat.reduceEqDiff, reduceCtorEq, argEnv, eq_self, if_true, if_false]
          repeat' ((first | rw [guardK_cases] | rw [condK_bool] | rw [guardD_cases]); split <;> simp only [c8, eBase, cells_eItems, isTup_eItems, h9, h10, hs, hd, h22, h26, h11x, h15x, h14, hlen, j0, j1, evX, Int.reduceEq, Int.reduceLT, Int.reduceLE, Nat.reduceMul, Nat.reduceMod, evW, evR, Nat.reduceAdd, Nat.reduceLT, Nat.reduceLeDiff, reduceIte, Nat.reduceEqDiff, reduceCtorEq, argEnv, eq_self, if_true, if_false, *])
          all_goals exact ⟨_, rfl⟩
        obtain ⟨i, rfl⟩ : ∃ k : Nat, i = (k : Int) := ⟨i.toNat, by omega⟩
        have hi : i < f.length := by omega
        obtain ⟨x, hx⟩ : ∃ x, f[i]? = some x := ⟨_, List.getElem?_eq_getElem hi⟩
        obtain ⟨_, kx, ty, hx0, hkx, _, hty, _⟩ := R.item hi
        rw [hx] at hx0; cases hx0
        have h28 := f28 b f R i hi
        have h29 := f29 b f R i hi
        have h15d := f15 b hb f hf (i : Int)
        have hend := endOf_is b.types f hi
        have hle := hend.le
        have hlt := hend.lt
        have hdel : delR b f (i : Int) = f.take i ++ f.drop (endOf b.types f i) := by unfold delR; rw [if_pos (right_err R hi), Int.toNat_natCast]
        rw [hdel, right_err R hi] at h15d
        have Rd := del_right R hi
        have h11d := f11 b hb (f.take i ++ f.drop (endOf b.types f i))
        rw [Rd.valid, Rd.forest] at h11d
        have hgl : (f.take i ++ f.drop (endOf b.types f i)).length = f.length - (endOf b.types f i - i) := by simp; omega
        have hlg := (sItems [] (f.take i ++ f.drop (endOf b.types f i))).len
        rw [List.length_map, hgl] at hlg
        have hw1 : IntKind.i64.wrap ((endOf b.types f i : Int) - (i : Int)) = ((endOf b.types f i - i : Nat) : Int) := by rw [wrap_i64 (by omega) (by omega)]; omega
        have hw2 : IntKind.i64.wrap ((f.length : Int) - ((endOf b.types f i - i : Nat) : Int)) = ((f.length - (endOf b.types f i - i) : Nat) : Int) := by rw [wrap_i64 (by omega) (by omega)]; omega
        have hw3 : IntKind.i64.wrap ((i : Int) + 1) = ((i + 1 : Nat) : Int) := by rw [wrap_i64 (by omega) (by omega)]; omega
        have hax := aItem hx
        have hat := aTy hty
        rw [← hkx] at hat
        have htt : tyOf b.types x.type = ty := by rw [hkx, tyOf_at hty]
        simp only [eBase, eLE, bEr, Bool.and_self, if_true] at h28 h29 h15d h11d
        by_cases j2 : endOf b.types f i = i + 1
        · have j2' : ((endOf b.types f i : Int) = ((i + 1 : Nat) : Int)) = True := eq_true (by omega)
          cases hu : ty.unique with
          | false =>
            have hat' : iaddrK 8 (some (eTys b.types)) (some (.int .i64 x.type)) = some (.fptr [.str ty.name, .int .i64 ty.parent, .int .i64 ty.min, .int .i64 ty.size, eFds ty.fields, .int .i64 ty.key, .bool false, .bool ty.last]) := by rw [← hu]; exact hat
            clear j2 hat hgl hdel
            generalize f.take i ++ f.drop (endOf b.types f i) = G at *
            generalize hew : endOf b.types f i = ew at *
            simp only [c8, eBase, cells_eItems, isTup_eItems, h9, h10, hs, hd, h22, h26, h11x, h15x, h14, hlen, j0, j1, h28, h29, h15d, h11d, hlg, hw1, hw2, hw3, j2', hax, hat', rItem, evX, Int.reduceEq, Int.reduceLT, Int.reduceLE, Nat.reduceMul, Nat.reduceMod, evW, fn_eq, evR, Nat.reduceAdd, Nat.reduceLT, Nat.reduceLeDiff, reduceIte, Nat.reduceEqDiff, reduceCtorEq, argEnv, eq_self, if_true, if_false]
            repeat' ((first | rw [guardK_cases] | rw [condK_bool] | rw [guardD_cases]); split <;> simp only [c8, eBase, cells_eItems, isTup_eItems, h9, h10, hs, hd, h22, h26, h11x, h15x, h14, hlen, j0, j1, h28, h29, h15d, h11d, hlg, hw1, hw2, hw3, j2', hax, hat', rItem, evX, Int.reduceEq, Int.reduceLT, Int.reduceLE, Nat.reduceMul, Nat.reduceMod, evW, evR, Nat.reduceAdd, Nat.reduceLT, Nat.reduceLeDiff, reduceIte, Nat.reduceEqDiff, reduceCtorEq, argEnv, eq_self, if_true, if_false, *])
            all_goals exact ⟨_, rfl⟩
          | true =>
            have hat' : iaddrK 8 (some (eTys b.types)) (some (.int .i64 x.type)) = some (.fptr [.str ty.name, .int .i64 ty.parent, .int .i64 ty.min, .int .i64 ty.size, eFds ty.fields, .int .i64 ty.key, .bool true, .bool ty.last]) := by rw [← hu]; exact hat
            obtain ⟨l1, l2, l3⟩ := leaf_ins R hx j2 (by rw [htt]; exact hu)
            have h26b := f26 b hb (f.take i ++ f.drop (i + 1)) (by simp; omega) (par b.types f i) x.type x.data
            rw [l1, l2, l3, ← j2] at h26b
            simp only [eBase, eLIE] at h26b
            clear j2 hat hgl hdel l1 l2 l3
            generalize f.take i ++ f.drop (endOf b.types f i) = G at *
            generalize hew : endOf b.types f i = ew at *
            simp only [c8, eBase, cells_eItems, isTup_eItems, h9, h10, hs, hd, h22, h26, h11x, h15x, h14, hlen, j0, j1, h28, h29, h15d, h11d, hlg, hw1, hw2, hw3, j2', hax, hat', rItem, h26b, h14, evX, Int.reduceEq, Int.reduceLT, Int.reduceLE, Nat.reduceMul, Nat.reduceMod, evW, fn_eq, evR, Nat.reduceAdd, Nat.reduceLT, Nat.reduceLeDiff, reduceIte, Nat.reduceEqDiff, reduceCtorEq, argEnv, eq_self, if_true, if_false]
            repeat' ((first | rw [guardK_cases] | rw [condK_bool] | rw [guardD_cases]); split <;> simp only [c8, eBase, cells_eItems, isTup_eItems, h9, h10, hs, hd, h22, h26, h11x, h15x, h14, hlen, j0, j1, h28, h29, h15d, h11d, hlg, hw1, hw2, hw3, j2', hax, hat', rItem, h26b, h14, evX, Int.reduceEq, Int.reduceLT, Int.reduceLE, Nat.reduceMul, Nat.reduceMod, evW, evR, Nat.reduceAdd, Nat.reduceLT, Nat.reduceLeDiff, reduceIte, Nat.reduceEqDiff, reduceCtorEq, argEnv, eq_self, if_true, if_false, *])
            all_goals exact ⟨_, rfl⟩
        · have j2' : ((endOf b.types f i : Int) = ((i + 1 : Nat) : Int)) = False := eq_false (by omega)
          clear hat hgl hdel j2
          generalize f.take i ++ f.drop (endOf b.types f i) = G at *
          generalize hew : endOf b.types f i = ew at *
          simp only [c8, eBase, cells_eItems, isTup_eItems, h9, h10, hs, hd, h22, h26, h11x, h15x, h14, hlen, j0, j1, h28, h29, h15d, h11d, hlg, hw1, hw2, hw3, j2', evX, Int.reduceEq, Int.reduceLT, Int.reduceLE, Nat.reduceMul, Nat.reduceMod, evW, fn_eq, evR, Nat.reduceAdd, Nat.reduceLT, Nat.reduceLeDiff, reduceIte, Nat.reduceEqDiff, reduceCtorEq, argEnv, eq_self, if_true, if_false]
          repeat' ((first | rw [guardK_cases] | rw [condK_bool] | rw [guardD_cases]); split <;> simp only [c8, eBase, cells_eItems, isTup_eItems, h9, h10, hs, hd, h22, h26, h11x, h15x, h14, hlen, j0, j1, h28, h29, h15d, h11d, hlg, hw1, hw2, hw3, j2', evX, Int.reduceEq, Int.reduceLT, Int.reduceLE, Nat.reduceMul, Nat.reduceMod, evW, evR, Nat.reduceAdd, Nat.reduceLT, Nat.reduceLeDiff, reduceIte, Nat.reduceEqDiff, reduceCtorEq, argEnv, eq_self, if_true, if_false, *])
          all_goals exact ⟨_, rfl⟩

      · have hE' : (insE b f p t d = 0) = False := eq_false hE
        clear hE
        generalize insE b f p t d = E at *

        by_cases j0 : i < 0
        · simp only [c8, eBase, cells_eItems, isTup_eItems, h9, h10, hs, hd, h22, h26, hE', j0, evX, Int.reduceEq, Int.reduceLT, Int.reduceLE, Nat.reduceMul, Nat.reduceMod, evW, fn_eq, evR, Nat.reduceAdd, Nat.reduceLT, Nat.reduceLeDiff, reduceIte, Nat.reduceEqDiff, reduceCtorEq, argEnv, eq_self, if_true, if_false]
          repeat' ((first | rw [guardK_cases] | rw [condK_bool] | rw [guardD_cases]); split <;> simp only [c8, eBase, cells_eItems, isTup_eItems, h9, h10, hs, hd, h22, h26, hE', j0, evX, Int.reduceEq, Int.reduceLT, Int.reduceLE, Nat.reduceMul, Nat.reduceMod, evW, evR, Nat.reduceAdd, Nat.reduceLT, Nat.reduceLeDiff, reduceIte, Nat.reduceEqDiff, reduceCtorEq, argEnv, eq_self, if_true, if_false, *])
          all_goals exact ⟨_, rfl⟩
        by_cases j1 : (f.length : Int) ≤ i
        · simp only [c8, eBase, cells_eItems, isTup_eItems, h9, h10, hs, hd, h22, h26, hE', hlen, j0, j1, evX, Int.reduceEq, Int.reduceLT, Int.reduceLE, Nat.reduceMul, Nat.reduceMod, evW, fn_eq, evR, Nat.reduceAdd, Nat.reduceLT, Nat.reduceLeDiff, reduceIte, Nat.reduceEqDiff, reduceCtorEq, argEnv, eq_self, if_true, if_false]
          repeat' ((first | rw [guardK_cases] | rw [condK_bool] | rw [guardD_cases]); split <;> simp only [c8, eBase, cells_eItems, isTup_eItems, h9, h10, hs, hd, h22, h26, hE', hlen, j0, j1, evX, Int.reduceEq, Int.reduceLT, Int.reduceLE, Nat.reduceMul, Nat.reduceMod, evW, evR, Nat.reduceAdd, Nat.reduceLT, Nat.reduceLeDiff, reduceIte, Nat.reduceEqDiff, reduceCtorEq, argEnv, eq_self, if_true, if_false, *])
          all_goals exact ⟨_, rfl⟩
        obtain ⟨i, rfl⟩ : ∃ k : Nat, i = (k : Int) := ⟨i.toNat, by omega⟩
        have hi : i < f.length := by omega
        obtain ⟨x, hx⟩ : ∃ x, f[i]? = some x := ⟨_, List.getElem?_eq_getElem hi⟩
        obtain ⟨_, kx, ty, hx0, hkx, _, hty, _⟩ := R.item hi
        rw [hx] at hx0; cases hx0
        have h28 := f28 b f R i hi
        have h29 := f29 b f R i hi
        have h15d := f15 b hb f hf (i : Int)
        have hend := endOf_is b.types f hi
        have hle := hend.le
        have hlt := hend.lt
        have hdel : delR b f (i : Int) = f.take i ++ f.drop (endOf b.types f i) := by unfold delR; rw [if_pos (right_err R hi), Int.toNat_natCast]
        rw [hdel, right_err R hi] at h15d
        have Rd := del_right R hi
        have h11d := f11 b hb (f.take i ++ f.drop (endOf b.types f i))
        rw [Rd.valid, Rd.forest] at h11d
        have hgl : (f.take i ++ f.drop (endOf b.types f i)).length = f.length - (endOf b.types f i - i) := by simp; omega
        have hlg := (sItems [] (f.take i ++ f.drop (endOf b.types f i))).len
        rw [List.length_map, hgl] at hlg
        have hw1 : IntKind.i64.wrap ((endOf b.types f i : Int) - (i : Int)) = ((endOf b.types f i - i : Nat) : Int) := by rw [wrap_i64 (by omega) (by omega)]; omega
        have hw2 : IntKind.i64.wrap ((f.length : Int) - ((endOf b.types f i - i : Nat) : Int)) = ((f.length - (endOf b.types f i - i) : Nat) : Int) := by rw [wrap_i64 (by omega) (by omega)]; omega
        have hw3 : IntKind.i64.wrap ((i : Int) + 1) = ((i + 1 : Nat) : Int) := by rw [wrap_i64 (by omega) (by omega)]; omega
        have hax := aItem hx
        have hat := aTy hty
        rw [← hkx] at hat
        have htt : tyOf b.types x.type = ty := by rw [hkx, tyOf_at hty]
        simp only [eBase, eLE, bEr, Bool.and_self, if_true] at h28 h29 h15d h11d
        by_cases j2 : endOf b.types f i = i + 1
        · have j2' : ((endOf b.types f i : Int) = ((i + 1 : Nat) : Int)) = True := eq_true (by omega)
          cases hu : ty.unique with
          | false =>
            have hat' : iaddrK 8 (some (eTys b.types)) (some (.int .i64 x.type)) = some (.fptr [.str ty.name, .int .i64 ty.parent, .int .i64 ty.min, .int .i64 ty.size, eFds ty.fields, .int .i64 ty.key, .bool false, .bool ty.last]) := by rw [← hu]; exact hat
            clear j2 hat hgl hdel
            generalize f.take i ++ f.drop (endOf b.types f i) = G at *
            generalize hew : endOf b.types f i = ew at *
            simp only [c8, eBase, cells_eItems, isTup_eItems, h9, h10, hs, hd, h22, h26, hE', hlen, j0, j1, h28, h29, h15d, h11d, hlg, hw1, hw2, hw3, j2', hax, hat', rItem, evX, Int.reduceEq, Int.reduceLT, Int.reduceLE, Nat.reduceMul, Nat.reduceMod, evW, fn_eq, evR, Nat.reduceAdd, Nat.reduceLT, Nat.reduceLeDiff, reduceIte, Nat.reduceEqDiff, reduceCtorEq, argEnv, eq_self, if_true, if_false]
            repeat' ((first | rw [guardK_cases] | rw [condK_bool] | rw [guardD_cases]); split <;> simp only [c8, eBase, cells_eItems, isTup_eItems, h9, h10, hs, hd, h22, h26, hE', hlen, j0, j1, h28, h29, h15d, h11d, hlg, hw1, hw2, hw3, j2', hax, hat', rItem, evX, Int.reduceEq, Int.reduceLT, Int.reduceLE, Nat.reduceMul, Nat.reduceMod, evW, evR, Nat.reduceAdd, Nat.reduceLT, Nat.reduceLeDiff, reduceIte, Nat.reduceEqDiff, reduceCtorEq, argEnv, eq_self, if_true, if_false, *])
            all_goals exact ⟨_, rfl⟩
          | true =>
            have hat' : iaddrK 8 (some (eTys b.types)) (some (.int .i64 x.type)) = some (.fptr [.str ty.name, .int .i64 ty.parent, .int .i64 ty.min, .int .i64 ty.size, eFds ty.fields, .int .i64 ty.key, .bool true, .bool ty.last]) := by rw [← hu]; exact hat
            obtain ⟨l1, l2, l3⟩ := leaf_ins R hx j2 (by rw [htt]; exact hu)
            have h26b := f26 b hb (f.take i ++ f.drop (i + 1)) (by simp; omega) (par b.types f i) x.type x.data
            rw [l1, l2, l3, ← j2] at h26b
            simp only [eBase, eLIE] at h26b
            clear j2 hat hgl hdel l1 l2 l3
            generalize f.take i ++ f.drop (endOf b.types f i) = G at *
            generalize hew : endOf b.types f i = ew at *
            simp only [c8, eBase, cells_eItems, isTup_eItems, h9, h10, hs, hd, h22, h26, hE', hlen, j0, j1, h28, h29, h15d, h11d, hlg, hw1, hw2, hw3, j2', hax, hat', rItem, h26b, h14, evX, Int.reduceEq, Int.reduceLT, Int.reduceLE, Nat.reduceMul, Nat.reduceMod, evW, fn_eq, evR, Nat.reduceAdd, Nat.reduceLT, Nat.reduceLeDiff, reduceIte, Nat.reduceEqDiff, reduceCtorEq, argEnv, eq_self, if_true, if_false]
            repeat' ((first | rw [guardK_cases] | rw [condK_bool] | rw [guardD_cases]); split <;> simp only [c8, eBase, cells_eItems, isTup_eItems, h9, h10, hs, hd, h22, h26, hE', hlen, j0, j1, h28, h29, h15d, h11d, hlg, hw1, hw2, hw3, j2', hax, hat', rItem, h26b, h14, evX, Int.reduceEq, Int.reduceLT, Int.reduceLE, Nat.reduceMul, Nat.reduceMod, evW, evR, Nat.reduceAdd, Nat.reduceLT, Nat.reduceLeDiff, reduceIte, Nat.reduceEqDiff, reduceCtorEq, argEnv, eq_self, if_true, if_false, *])
            all_goals exact ⟨_, rfl⟩
        · have j2' : ((endOf b.types f i : Int) = ((i + 1 : Nat) : Int)) = False := eq_false (by omega)
          clear hat hgl hdel j2
          generalize f.take i ++ f.drop (endOf b.types f i) = G at *
          generalize hew : endOf b.types f i = ew at *
          simp only [c8, eBase, cells_eItems, isTup_eItems, h9, h10, hs, hd, h22, h26, hE', hlen, j0, j1, h28, h29, h15d, h11d, hlg, hw1, hw2, hw3, j2', evX, Int.reduceEq, Int.reduceLT, Int.reduceLE, Nat.reduceMul, Nat.reduceMod, evW, fn_eq, evR, Nat.reduceAdd, Nat.reduceLT, Nat.reduceLeDiff, reduceIte, Nat.reduceEqDiff, reduceCtorEq, argEnv, eq_self, if_true, if_false]
          repeat' ((first | rw [guardK_cases] | rw [condK_bool] | rw [guardD_cases]); split <;> simp only [c8, eBase, cells_eItems, isTup_eItems, h9, h10, hs, hd, h22, h26, hE', hlen, j0, j1, h28, h29, h15d, h11d, hlg, hw1, hw2, hw3, j2', evX, Int.reduceEq, Int.reduceLT, Int.reduceLE, Nat.reduceMul, Nat.reduceMod, evW, evR, Nat.reduceAdd, Nat.reduceLT, Nat.reduceLeDiff, reduceIte, Nat.reduceEqDiff, reduceCtorEq, argEnv, eq_self, if_true, if_false, *])
          all_goals exact ⟨_, rfl⟩

    · simp only [c8, eBase, cells_eItems, isTup_eItems, h9, h10, hs, hd, h22, he, evX, Int.reduceEq, Int.reduceLT, Int.reduceLE, Nat.reduceMul, Nat.reduceMod, evW, fn_eq, evR, Nat.reduceAdd, Nat.reduceLT, Nat.reduceLeDiff, reduceIte, Nat.reduceEqDiff, reduceCtorEq, argEnv, eq_self, if_true, if_false]
      repeat' ((first | rw [guardK_cases] | rw [condK_bool] | rw [guardD_cases]); split <;> simp only [c8, eBase, cells_eItems, isTup_eItems, h9, h10, hs, hd, h22, he, evX, Int.reduceEq, Int.reduceLT, Int.reduceLE, Nat.reduceMul, Nat.reduceMod, evW, evR, Nat.reduceAdd, Nat.reduceLT, Nat.reduceLeDiff, reduceIte, Nat.reduceEqDiff, reduceCtorEq, argEnv, eq_self, if_true, if_false, *])
      all_goals exact ⟨_, rfl⟩
end Go.Proofs.Ytcbmakanokmdjaa.Code
namespace Go.Proofs.Ytcbmakanokmdjaa.Pure
open Go.Proofs.Ytcbmakanokmdjaa.Ev Go.Proofs.Ytcbmakanokmdjaa.Code
theorem PlainBack (a0 : AV) (t0 : ArgTy true [.str, .int .i64, .sl [.str, .int .i64, .int .i64, .int .i64, .sl [.str, .int .i64, .int .i64], .int .i64, .bool, .bool], .sl [.str, .int .i64, .int .i64, .str]] a0)
    (a1 : AV) (t1 : ArgTy false [.sl [.int .i64, .str]] a1) (a2 : AV) (t2 : ArgTy true [.int .i64, .int .i64, .int .i64, .str] a2) : ∃ H', evC cprog 8 [a0, a1, a2] [] = some (.bool true, H') := by
  obtain ⟨b, rfl, hb⟩ := open_Base t0
  obtain ⟨f, rfl, hf⟩ := open_Items t1
  obtain ⟨p, t, o, d, rfl⟩ := open_Put t2
  exact f8 b hb f hf p t o d
end Go.Proofs.Ytcbmakanokmdjaa.Pure

