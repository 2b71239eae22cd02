/- plain: the hierarchy of types (mathematics). -/
import Derived.Test.YtcbmakanokmdjaaRc
set_option linter.unusedSimpArgs false
set_option linter.unusedVariables false
namespace Go.Proofs.Ytcbmakanokmdjaa.Code
open Go.Proofs.Ytcbmakanokmdjaa.Ev

/-- the way from the root to a type -/
def anc (ts : List Ty) (k : Nat) : List Int :=
  match ts[k]? with
  | some t => if h : 0 ≤ t.parent ∧ t.parent.toNat < k then anc ts t.parent.toNat ++ [(k : Int)] else [(k : Int)]
  | none => [(k : Int)]
termination_by k
theorem anc_root {ts : List Ty} {k : Nat} (h : ∀ t, ts[k]? = some t → t.parent < 0) : anc ts k = [(k : Int)] := by
  rw [anc]
  split
  · rename_i t ht
    rw [dif_neg (by have := h t ht; omega)]
  · rfl
theorem anc_up {ts : List Ty} {k p : Nat} {t : Ty} (ht : ts[k]? = some t) (hp : t.parent = (p : Int)) (hk : p < k) : anc ts k = anc ts p ++ [(k : Int)] := by
  rw [anc, ht]
  simp only [hp]
  rw [dif_pos (by constructor <;> omega)]
  simp
theorem anc_ne (ts : List Ty) (k : Nat) : anc ts k ≠ [] := by
  rw [anc]
  split
  · split <;> simp
  · simp
theorem anc_le (ts : List Ty) : ∀ (n k : Nat), k ≤ n → ∀ x ∈ anc ts k, 0 ≤ x ∧ x ≤ k := by
  intro n
  induction n with
  | zero =>
    intro k hk x hx
    have : k = 0 := by omega
    subst this
    rw [anc] at hx
    split at hx
    · rw [dif_neg (by omega)] at hx; simp at hx; omega
    · simp at hx; omega
  | succ n ih =>
    intro k hk x hx
    rw [anc] at hx
    split at hx
    · rename_i t ht
      split at hx
      · rename_i h
        rcases List.mem_append.1 hx with hx | hx
        · have := ih _ (by omega) x hx; omega
        · simp at hx; omega
      · simp at hx; omega
    · simp at hx; omega
theorem anc_bound {ts : List Ty} {k : Nat} {x : Int} (hx : x ∈ anc ts k) : 0 ≤ x ∧ x ≤ k := anc_le ts k k (Nat.le_refl _) x hx
theorem anc_self (ts : List Ty) (k : Nat) : (k : Int) ∈ anc ts k := by
  rw [anc]
  split
  · split <;> simp
  · simp
theorem anc_len (ts : List Ty) : ∀ (n k : Nat), k ≤ n → (anc ts k).length ≤ k + 1 := by
  intro n
  induction n with
  | zero =>
    intro k hk
    have : k = 0 := by omega
    subst this
    rw [anc]
    split
    · rw [dif_neg (by omega)]; simp
    · simp
  | succ n ih =>
    intro k hk
    rw [anc]
    split
    · rename_i t ht
      split
      · rename_i h
        have := ih t.parent.toNat (by omega)
        rw [List.length_append, List.length_singleton]; omega
      · simp
    · simp
/-- where a type stands on a way, and what is ahead of it -/
theorem idx_anc (ts : List Ty) : ∀ (n k : Nat), k ≤ n → ∀ p : Nat, (p : Int) ∈ anc ts k →
    ∃ j : Nat, idxOf (fun x => decide ((p : Int) = x)) (anc ts k) = (j : Int) ∧ j < (anc ts k).length ∧ (anc ts k).take (j + 1) = anc ts p := by
  intro n
  induction n with
  | zero =>
    intro k hk p hp
    have : k = 0 := by omega
    subst this
    have hb := anc_bound hp
    have : p = 0 := by omega
    subst this
    have e : anc ts 0 = [(0 : Int)] := by
      rw [anc]
      split
      · rw [dif_neg (by omega)]; rfl
      · rfl
    rw [e]
    exact ⟨0, rfl, by simp, rfl⟩
  | succ n ih =>
    intro k hk p hp
    have one : anc ts k = [(k : Int)] → ∃ j : Nat, idxOf (fun x => decide ((p : Int) = x)) (anc ts k) = (j : Int) ∧ j < (anc ts k).length ∧ (anc ts k).take (j + 1) = anc ts p := by
      intro e
      rw [e] at hp
      have : p = k := by have := List.mem_singleton.1 hp; omega
      subst this
      rw [e]
      exact ⟨0, by simp [idxOf], by simp, rfl⟩
    cases ht : ts[k]? with
    | none => exact one (by rw [anc, ht])
    | some t =>
      by_cases h : 0 ≤ t.parent ∧ t.parent.toNat < k
      · have e : anc ts k = anc ts t.parent.toNat ++ [(k : Int)] := anc_up ht (by omega) h.2
        by_cases hpk : p = k
        · subst hpk
          rw [e]
          refine ⟨(anc ts t.parent.toNat).length, ?_, by simp, ?_⟩
          · unfold idxOf
            rw [List.findIdx?_append, List.findIdx?_eq_none_iff.2 (by
              intro x hx
              have := anc_bound hx
              simp; omega)]
            simp [List.findIdx?_cons]
          · rw [List.take_of_length_le (by simp)]
        · have hp' : (p : Int) ∈ anc ts t.parent.toNat := by
            rw [e] at hp
            rcases List.mem_append.1 hp with hp | hp
            · exact hp
            · simp at hp; omega
          obtain ⟨j, h1, h2, h3⟩ := ih _ (by omega) p hp'
          rw [e]
          refine ⟨j, ?_, by simp; omega, by rw [List.take_append_of_le_length (by omega), h3]⟩
          unfold idxOf at h1 ⊢
          rw [List.findIdx?_append]
          split at h1
          · rename_i i hi
            simp [hi]; omega
          · omega
      · exact one (by rw [anc, ht]; simp only; rw [dif_neg h])
theorem idx_none {l : List Int} {p : Int} (h : p ∉ l) : idxOf (fun x => decide (p = x)) l = -1 := by
  unfold idxOf
  rw [List.findIdx?_eq_none_iff.2 (by intro x hx; simp; rintro rfl; exact h hx)]
/-- the way to the type in front of one -/
def wayTo (ts : List Ty) : Nat → List Int
  | 0 => []
  | i + 1 => anc ts i
def rootOk (t : Ty) : Bool := decide (t.parent = -1) && decide (0 ≤ t.key) && t.unique && match t.fields[t.key.toNat]? with
  | some f => decide (f.bytes ≤ 24)
  | none => false
/-- what is asked of a type among others -/
noncomputable def tyAt (ts : List Ty) (i : Nat) (t : Ty) : Bool :=
  tyOk t && !((ts.take i).any fun u => decide (u.name = t.name)) && (if i = 0 then rootOk t else decide (t.parent ∈ wayTo ts i)) && decide (((anc ts i).length : Int) ≤ 5)
noncomputable def tysOk (ts : List Ty) : Bool := tell (∀ (i : Nat) (t : Ty), ts[i]? = some t → tyAt ts i t = true)
theorem parent_of {ts : List Ty} {i : Nat} {t : Ty} (h : tyAt ts i t = true) (hi : i ≠ 0) : ∃ p : Nat, t.parent = (p : Int) ∧ p < i ∧ (p : Int) ∈ anc ts (i - 1) := by
  obtain ⟨j, rfl⟩ : ∃ j, i = j + 1 := ⟨i - 1, by omega⟩
  simp only [tyAt, Bool.and_eq_true, if_neg hi, decide_eq_true_eq, wayTo] at h
  have hm := of_decide_eq_true h.1.2
  have hb := anc_bound hm
  exact ⟨t.parent.toNat, by omega, by omega, by rw [show ((t.parent.toNat : Nat) : Int) = t.parent by omega]; exact hm⟩
theorem parent_root {ts : List Ty} {t : Ty} (h : tyAt ts 0 t = true) : t.parent = -1 := by
  simp only [tyAt, Bool.and_eq_true, if_true, rootOk, decide_eq_true_eq] at h
  exact h.1.2.1.1.1
end Go.Proofs.Ytcbmakanokmdjaa.Code
