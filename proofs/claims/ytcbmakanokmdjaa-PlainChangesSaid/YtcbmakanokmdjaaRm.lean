/- plain: forests in hierarchical order (mathematics). -/
import Derived.Test.YtcbmakanokmdjaaRl
set_option linter.unusedSimpArgs false
set_option linter.unusedVariables false
namespace Go.Proofs.Ytcbmakanokmdjaa.Code
open Go.Proofs.Ytcbmakanokmdjaa.Ev

def typ (f : List Item) (k : Int) : Int := match f[k.toNat]? with
  | some x => x.type
  | none => -1
def tpar (ts : List Ty) (t : Int) : Int := match ts[t.toNat]? with
  | some y => y.parent
  | none => -1
/-- the last one of a type ahead of a place, or -1 -/
def lastTo (f : List Item) (p : Int) : Nat → Int
  | 0 => -1
  | k + 1 => if typ f (k : Int) = p then (k : Int) else lastTo f p k
theorem lastTo_lt (f : List Item) (p : Int) : ∀ n : Nat, -1 ≤ lastTo f p n ∧ lastTo f p n < (n : Int)
  | 0 => by simp [lastTo]
  | k + 1 => by
    have := lastTo_lt f p k
    unfold lastTo
    split <;> omega
theorem lastTo_typ (f : List Item) (p : Int) : ∀ n : Nat, 0 ≤ lastTo f p n → typ f (lastTo f p n) = p
  | 0, h => by simp [lastTo] at h
  | k + 1, h => by
    unfold lastTo at h ⊢
    split
    · assumption
    · rename_i h1; rw [if_neg h1] at h; exact lastTo_typ f p k h
theorem lastTo_is {f : List Item} {p : Int} {a : Nat} (ha : typ f (a : Int) = p) : ∀ n : Nat, a < n → (∀ j : Nat, a < j → j < n → typ f (j : Int) ≠ p) → lastTo f p n = (a : Int)
  | 0, h, _ => by omega
  | k + 1, h, hj => by
    unfold lastTo
    by_cases e : k = a
    · subst e; rw [if_pos ha]
    · rw [if_neg (hj k (by omega) (by omega))]
      exact lastTo_is ha k (by omega) fun j h1 h2 => hj j h1 (by omega)
theorem lastTo_none {f : List Item} {p : Int} : ∀ n : Nat, lastTo f p n < 0 → ∀ j : Nat, j < n → typ f (j : Int) ≠ p
  | 0, _, j, hj => by omega
  | k + 1, h, j, hj => by
    unfold lastTo at h
    split at h
    · omega
    · rename_i h1
      by_cases e : j = k
      · subst e; exact h1
      · exact lastTo_none k h j (by omega)
/-- the place of an item's parent, or -1 -/
def par (ts : List Ty) (f : List Item) (i : Nat) : Int := if tpar ts (typ f (i : Int)) < 0 then -1 else lastTo f (tpar ts (typ f (i : Int))) i
theorem par_lt (ts : List Ty) (f : List Item) (i : Nat) : -1 ≤ par ts f i ∧ par ts f i < (i : Int) := by
  unfold par
  split
  · omega
  · exact lastTo_lt ..
theorem par_typ {ts : List Ty} {f : List Item} {i : Nat} (h : 0 ≤ par ts f i) : typ f (par ts f i) = tpar ts (typ f (i : Int)) ∧ 0 ≤ tpar ts (typ f (i : Int)) := by
  unfold par at h ⊢
  split at h
  · omega
  · rename_i h1; rw [if_neg h1]; exact ⟨lastTo_typ _ _ _ h, by omega⟩
def pk (p : Int) : Ty := ⟨⟨#[]⟩, p, 0, 0, [], 0, false, false⟩
/-- the parents of all items, as a list -/
def pts (ts : List Ty) (f : List Item) : List Ty := (List.range f.length).map fun i => pk (par ts f i)
theorem pts_len (ts : List Ty) (f : List Item) : (pts ts f).length = f.length := by simp [pts]
theorem pts_at (ts : List Ty) (f : List Item) {i : Nat} (h : i < f.length) : (pts ts f)[i]? = some (pk (par ts f i)) := by simp [pts, h]
theorem good_pts (ts : List Ty) (f : List Item) : Good (pts ts f) f.length := fun j t hj ht => by
  rw [pts_at ts f hj] at ht; cases ht
  exact par_lt ts f j
/-- the path of an item -/
def pth (ts : List Ty) (f : List Item) (i : Nat) : List Int := anc (pts ts f) i
def pthI (ts : List Ty) (f : List Item) (i : Int) : List Int := ancI (pts ts f) i
/-- the path of the item ahead of one -/
def way (ts : List Ty) (f : List Item) (i : Nat) : List Int := wayTo (pts ts f) i
theorem pth_eq (ts : List Ty) (f : List Item) {i : Nat} (h : i < f.length) : pth ts f i = pthI ts f (par ts f i) ++ [(i : Int)] := anc_step (good_pts ts f) h (pts_at ts f h)
theorem pth_bound {ts : List Ty} {f : List Item} {i : Nat} {a : Int} (h : a ∈ pth ts f i) : 0 ≤ a ∧ a ≤ (i : Int) := anc_bound h
/-- what is on a way has its own way there -/
theorem take_anc (ts : List Ty) {n : Nat} (hg : Good ts n) (hn : n ≤ ts.length) : ∀ (m k : Nat), k ≤ m → k < n → ∀ (j : Nat) (a : Int), (anc ts k)[j]? = some a → (anc ts k).take (j + 1) = anc ts a.toNat := by
  intro m
  induction m with
  | zero =>
    intro k hk hkn j a ha
    obtain rfl : k = 0 := by omega
    obtain ⟨t, ht⟩ : ∃ t, ts[0]? = some t := ⟨_, List.getElem?_eq_getElem (by omega)⟩
    have := hg 0 t hkn ht
    rw [anc_root fun t' ht' => by rw [ht] at ht'; cases ht'; omega] at ha ⊢
    obtain rfl : j = 0 := by have := (List.getElem?_eq_some_iff.1 ha).1; simpa using this
    simp at ha
    subst ha
    rw [anc_root fun t' ht' => by simp at ht'; rw [ht] at ht'; cases ht'; omega]; rfl
  | succ m ih =>
    intro k hk hkn j a ha
    obtain ⟨t, ht⟩ : ∃ t, ts[k]? = some t := ⟨_, List.getElem?_eq_getElem (by omega)⟩
    have hgt := hg k t hkn ht
    have hs := anc_step hg hkn ht
    rw [hs] at ha ⊢
    by_cases hj : j < (ancI ts t.parent).length
    · rw [List.getElem?_append_left hj] at ha
      rw [List.take_append_of_le_length (by omega)]
      by_cases hp : t.parent < 0
      · rw [ancI_neg _ hp] at hj; simp at hj
      · obtain ⟨p, hp⟩ : ∃ p : Nat, t.parent = (p : Int) := ⟨t.parent.toNat, by omega⟩
        rw [hp, ancI_nat] at ha ⊢
        exact ih p (by omega) (by omega) j a ha
    · rw [List.getElem?_append_right (by omega)] at ha
      have hj0 : j - (ancI ts t.parent).length = 0 := by
        have := (List.getElem?_eq_some_iff.1 ha).1
        simp at this; omega
      rw [hj0] at ha
      simp at ha
      subst ha
      rw [List.take_of_length_le (by simp; omega), ← hs]; simp
theorem anc_trans (ts : List Ty) {b k : Nat} (h1 : (b : Int) ∈ anc ts k) {x : Int} (h2 : x ∈ anc ts b) : x ∈ anc ts k := by
  obtain ⟨j, _, _, h⟩ := idx_anc ts k k (Nat.le_refl _) b h1
  rw [← h] at h2
  exact List.mem_of_mem_take h2
def fits (ts : List Ty) (x : Item) : Bool := match ts[x.type.toNat]? with
  | some t => decide (0 ≤ x.type) && decide (t.min ≤ (x.data.size : Int)) && decide ((x.data.size : Int) ≤ t.size)
  | none => false
end Go.Proofs.Ytcbmakanokmdjaa.Code
