/- plain: ends of subtrees (mathematics). -/
import Derived.Test.YtcbmakanokmdjaaRv
set_option linter.unusedSimpArgs false
set_option linter.unusedVariables false
namespace Go.Proofs.Ytcbmakanokmdjaa.Code
open Go.Proofs.Ytcbmakanokmdjaa.Ev

/-- a base and a forest that are right -/
structure Right (b : Base) (f : List Item) : Prop where
  base : b.Ok
  valid : validB b = true
  forest : forestOk b.types f = true
theorem Right.tys {b : Base} {f : List Item} (h : Right b f) : tysOk b.types = true := valid_tys h.valid
theorem Right.len {b : Base} {f : List Item} (h : Right b f) : f.length ≤ 200 := by
  have := h.forest
  simp only [forestOk, Bool.and_eq_true, decide_eq_true_eq] at this
  omega
theorem Right.ok {b : Base} {f : List Item} (h : Right b f) : FOk b.types f f.length := fun j x _ hx => by
  have := h.forest
  simp only [forestOk, Bool.and_eq_true] at this
  exact tell_true.1 this.2 j x hx
theorem Right.fits {b : Base} {f : List Item} (h : Right b f) : AllFit b.types f := fun i x hx => ok_fits (h.ok i x (List.getElem?_eq_some_iff.1 hx).1 hx)
/-- an item has a type -/
theorem Right.item {b : Base} {f : List Item} (h : Right b f) {i : Nat} (hi : i < f.length) : ∃ (x : Item) (k : Nat) (t : Ty), f[i]? = some x ∧ x.type = (k : Int) ∧ k < b.types.length ∧ b.types[k]? = some t ∧ tyOk t = true ∧ t.min ≤ x.data.size ∧ (x.data.size : Int) ≤ t.size := by
  obtain ⟨x, hx⟩ : ∃ x, f[i]? = some x := ⟨_, List.getElem?_eq_getElem hi⟩
  obtain ⟨k, t, h1, h2, h3, h4, h5⟩ := fits_some (h.fits i x hx)
  have hty : tyOk t = true := by have := tell_true.1 h.tys k t h3; simp only [tyAt, Bool.and_eq_true] at this; exact this.1.1.1
  exact ⟨x, k, t, hx, h1, h2, h3, hty, h4, h5⟩
/-- the parent of an item -/
theorem Right.par {b : Base} {f : List Item} (h : Right b f) {i : Nat} {x : Item} {k : Nat} {t : Ty} (hx : f[i]? = some x) (hk : x.type = (k : Int)) (ht : b.types[k]? = some t) :
    (t.parent < 0 ∧ par b.types f i = -1 ∧ k = 0) ∨ ∃ p : Nat, par b.types f i = (p : Int) ∧ p < i ∧ (p : Int) ∈ way b.types f i ∧ 0 ≤ t.parent ∧ t.parent < (k : Int) ∧ typ f (p : Int) = t.parent := by
  have hi := (List.getElem?_eq_some_iff.1 hx).1
  have hpt : tpar b.types x.type = t.parent := by rw [hk, tpar_at ht]
  by_cases hp : t.parent < 0
  · exact .inl ⟨hp, by unfold Code.par; rw [typ_at hx, hpt, if_pos hp], (tys_root h.tys ht).1 hp⟩
  · have hok := h.ok i x hi hx
    simp only [okAt, Bool.and_eq_true, Bool.or_eq_true, decide_eq_true_eq, tell_true, hpt] at hok
    have hm : Code.par b.types f i ∈ way b.types f i := by rcases hok.1.2 with h1 | h1; (· omega); exact h1
    have hb := way_bound hm
    have hg := tys_good h.tys k t (List.getElem?_eq_some_iff.1 ht).1 ht
    refine .inr ⟨(Code.par b.types f i).toNat, by omega, by omega, by rw [Int.toNat_of_nonneg hb.1]; exact hm, by omega, by omega, ?_⟩
    rw [Int.toNat_of_nonneg hb.1, (par_typ hb.1).1, typ_at hx, hpt]
theorem typ_nat {b : Base} {f : List Item} (h : Right b f) {i : Nat} (hi : i < f.length) : ∃ k : Nat, typ f (i : Int) = (k : Int) ∧ k < b.types.length := by
  obtain ⟨x, k, t, h1, h2, h3, _⟩ := h.item hi
  exact ⟨k, by rw [typ_at h1, h2], h3⟩
/-- the way of an item is as long as that of its type -/
theorem pth_len {b : Base} {f : List Item} (h : Right b f) : ∀ (n i : Nat), i ≤ n → i < f.length → (pth b.types f i).length = (anc b.types (typ f (i : Int)).toNat).length := by
  intro n
  induction n with
  | zero =>
    intro i hn hi
    obtain rfl : i = 0 := by omega
    obtain ⟨x, k, t, hx, hk, hkl, ht, _⟩ := h.item hi
    rw [pth_eq _ _ hi, typ_at hx, hk, Int.toNat_natCast, anc_step (tys_good h.tys) hkl ht]
    rcases h.par hx hk ht with ⟨h1, h2, _⟩ | ⟨p, h1, h2, _⟩
    · rw [h2, pthI_neg _ _ (by omega), ancI_neg _ h1]; rfl
    · omega
  | succ n ih =>
    intro i hn hi
    obtain ⟨x, k, t, hx, hk, hkl, ht, _⟩ := h.item hi
    rw [pth_eq _ _ hi, typ_at hx, hk, Int.toNat_natCast, anc_step (tys_good h.tys) hkl ht]
    rcases h.par hx hk ht with ⟨h1, h2, _⟩ | ⟨p, h1, h2, _, h4, _, h6⟩
    · rw [h2, pthI_neg _ _ (by omega), ancI_neg _ h1]; rfl
    · have := ih p (by omega) (by omega)
      rw [h6] at this
      obtain ⟨q, hq⟩ : ∃ q : Nat, t.parent = (q : Int) := ⟨t.parent.toNat, by omega⟩
      rw [hq, Int.toNat_natCast] at this
      rw [h1, pthI_nat, hq, ancI_nat]
      simp [this]
/-- where the way of the next item parts from a way -/
theorem way_cut {b : Base} {f : List Item} (h : Right b f) {k : Nat} (hk : k < f.length) : pth b.types f k = (way b.types f k).take (nOf b.types f k) ++ [(k : Int)] ∧ nOf b.types f k ≤ (way b.types f k).length := by
  obtain ⟨x, c, t, hx, hc, hcl, ht, _⟩ := h.item hk
  unfold nOf
  rw [pth_eq _ _ hk]
  rcases h.par hx hc ht with ⟨h1, h2, _⟩ | ⟨p, h1, h2, h3, h4, _, h6⟩
  · rw [h2, pthI_neg _ _ (by omega)]; simp
  · rw [h1, pthI_nat]
    obtain ⟨m, hm⟩ := List.getElem?_of_mem h3
    have ht := take_way b.types f (by omega) hm
    rw [Int.toNat_natCast] at ht
    have hml := (List.getElem?_eq_some_iff.1 hm).1
    have hl : (pth b.types f p).length = m + 1 := by rw [← ht, List.length_take]; omega
    rw [hl, ht]
    exact ⟨rfl, by omega⟩
theorem nodup_anc (ts : List Ty) : ∀ (n k : Nat), k ≤ n → (anc ts k).Nodup := by
  intro n
  induction n with
  | zero =>
    intro k hk
    obtain rfl : k = 0 := by omega
    rw [anc]
    split
    · rw [dif_neg (by omega)]; simp
    · simp
  | succ n ih =>
    intro k hk
    rw [anc]
    split
    · split
      · rename_i t _ h
        rw [List.nodup_append]
        refine ⟨ih _ (by omega), by simp, fun a ha b hb => ?_⟩
        have := anc_bound ha
        simp at hb
        omega
      · simp
    · simp
theorem mem_take_nodup {l : List Int} (h : l.Nodup) {m n : Nat} {a : Int} (hm : l[m]? = some a) : a ∈ l.take n ↔ m < n := by
  constructor
  · intro ha
    obtain ⟨j, hj⟩ := List.getElem?_of_mem ha
    rw [List.getElem?_take] at hj
    split at hj
    · have := (List.getElem?_eq_some_iff.1 hm).1
      have := (List.getElem?_inj this h).1 (hm.trans hj.symm)
      omega
    · cases hj
  · intro hn
    exact List.mem_of_getElem? (i := m) (by rw [List.getElem?_take, if_pos hn, hm])
theorem way_nodup (ts : List Ty) (f : List Item) (i : Nat) : (way ts f i).Nodup := by
  cases i with
  | zero => simp [way, wayTo]
  | succ i => exact nodup_anc _ i i (Nat.le_refl _)
/-- an item on the way ahead is on the way if and only if the way is longer than its own -/
theorem below_len {b : Base} {f : List Item} (h : Right b f) {i k : Nat} (hi : i < k) (hk : k < f.length) (hm : (i : Int) ∈ way b.types f k) : (i : Int) ∈ pth b.types f k ↔ (pth b.types f i).length < (pth b.types f k).length := by
  obtain ⟨h1, h2⟩ := way_cut h hk
  obtain ⟨m, hm⟩ := List.getElem?_of_mem hm
  have ht := take_way b.types f (by omega) hm
  rw [Int.toNat_natCast] at ht
  have hml := (List.getElem?_eq_some_iff.1 hm).1
  have hl : (pth b.types f i).length = m + 1 := by rw [← ht, List.length_take]; omega
  rw [hl, h1, List.mem_append, mem_take_nodup (way_nodup _ _ _) hm, List.length_append, List.length_take, Nat.min_eq_left h2]
  simp
  omega
/-- behind the subtree of an item -/
structure IsEnd (ts : List Ty) (f : List Item) (i e : Nat) : Prop where
  lt : i < e
  le : e ≤ f.length
  all : ∀ k : Nat, i < k → k < e → (i : Int) ∈ pth ts f k
  no : e < f.length → (i : Int) ∉ pth ts f e
theorem IsEnd.uniq {ts : List Ty} {f : List Item} {i e e' : Nat} (h : IsEnd ts f i e) (h' : IsEnd ts f i e') : e = e' := by
  by_cases h1 : e < e'
  · have := h'.le
    exact absurd (h'.all e h.lt h1) (h.no (by omega))
  · by_cases h2 : e' < e
    · have := h.le
      exact absurd (h.all e' h'.lt h2) (h'.no (by omega))
    · omega
def endFrom (ts : List Ty) (f : List Item) (i : Nat) : Nat → Nat → Nat
  | 0, k => k
  | n + 1, k => if (i : Int) ∈ pth ts f k then endFrom ts f i n (k + 1) else k
def endOf (ts : List Ty) (f : List Item) (i : Nat) : Nat := endFrom ts f i (f.length - (i + 1)) (i + 1)
theorem endFrom_is (ts : List Ty) (f : List Item) (i : Nat) : ∀ (n k : Nat), n + k = f.length → i < k → (∀ j : Nat, i < j → j < k → (i : Int) ∈ pth ts f j) → IsEnd ts f i (endFrom ts f i n k)
  | 0, k, hn, hk, h => ⟨hk, by simp [endFrom]; omega, h, fun h => by simp [endFrom] at h; omega⟩
  | n + 1, k, hn, hk, h => by
    unfold endFrom
    split
    · rename_i hm
      refine endFrom_is ts f i n (k + 1) (by omega) (by omega) fun j h1 h2 => ?_
      by_cases e : j = k
      · subst e; exact hm
      · exact h j h1 (by omega)
    · rename_i hm
      exact ⟨hk, by omega, h, fun _ => hm⟩
theorem endOf_is (ts : List Ty) (f : List Item) {i : Nat} (hi : i < f.length) : IsEnd ts f i (endOf ts f i) := endFrom_is ts f i _ _ (by omega) (by omega) fun j h1 h2 => by omega
/-- what is ahead of a place in a subtree is in that subtree -/
theorem IsEnd.way {ts : List Ty} {f : List Item} {i e : Nat} (hall : ∀ k : Nat, i < k → k < e → (i : Int) ∈ pth ts f k) {k : Nat} (h1 : i < k) (h2 : k ≤ e) : (i : Int) ∈ way ts f k := by
  obtain ⟨k, rfl⟩ : ∃ j, k = j + 1 := ⟨k - 1, by omega⟩
  change (i : Int) ∈ pth ts f k
  by_cases e' : k = i
  · subst e'; exact pth_self ts f k
  · exact hall k (by omega) (by omega)
end Go.Proofs.Ytcbmakanokmdjaa.Code
