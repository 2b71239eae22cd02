/- Keys of lists of texts: mathematics alone (what strings.ReplaceAll makes of the bytes 00). -/
import Derived.Test.YtbdpceigmnpoaaaGreatDoorEvA
import Derived.Lib.ReplaceLaws
import Derived.Lib.SplitLaws
set_option linter.unusedSimpArgs false
set_option linter.unusedVariables false
namespace Go.Proofs.YtbdpceigmnpoaaaGreatDoor.Ev
open Go Go.Lib

def esc : List UInt8 → List UInt8
  | [] => []
  | b :: l => if b = 0 then 0 :: 255 :: esc l else b :: esc l
theorem esc_len : ∀ l : List UInt8, (esc l).length ≤ 2 * l.length
  | [] => by simp [esc]
  | b :: l => by
    have := esc_len l
    simp only [esc]
    split <;> simp <;> omega
theorem index_one_eq (c : UInt8) (l : List UInt8) : index (c :: l) [c] = 0 := by simp [index, List.isPrefixOf]
theorem index_one_ne {b c : UInt8} (h : b ≠ c) (l : List UInt8) : index (b :: l) [c] = if index l [c] == -1 then -1 else index l [c] + 1 := by
  have : (c == b) = false := by simp [Ne.symm h]
  simp [index, List.isPrefixOf, this]
theorem repl_ne {b : UInt8} (h : b ≠ 0) (new : List UInt8) : ∀ (k : Nat) (l : List UInt8), replaceK [0] new k (b :: l) = b :: replaceK [0] new k l
  | 0, l => rfl
  | k + 1, l => by
    have hge := index_ge l [0]
    simp only [replaceK, index_one_ne h]
    by_cases hm : index l [0] = -1
    · simp [hm]
    · obtain ⟨i, hi⟩ : ∃ i : Nat, index l [0] = i := ⟨(index l [0]).toNat, by omega⟩
      have h1 : ((i : Int) == -1) = false := by simp <;> omega
      have h2 : ((i : Int) + 1 == -1) = false := by simp <;> omega
      have h3 : ((i : Int) + 1).toNat = i + 1 := by omega
      simp [hi, h1, h2, h3]
theorem repl_esc : ∀ l : List UInt8, replaceK [0] [0, 255] (count l [0]) l = esc l
  | [] => by
    have : count [] [0] = 0 := by simp [count_one]
    rw [this]
    simp [replaceK, esc]
  | b :: l => by
    by_cases h : b = 0
    · subst h
      rw [count_cons_eq, Nat.add_comm, replaceK_hit _ _ _ _ 0 (index_one_eq 0 l)]
      simp [esc, repl_esc l]
    · rw [count_cons_ne b 0 l h, repl_ne h, repl_esc l]
      simp [esc, h]
theorem replaceAll_esc (l : List UInt8) : replaceAll l [0] [0, 255] = esc l := by
  have h : ([0] : List UInt8) ≠ [0, 255] := by decide
  simp only [replaceAll, replace]
  rw [if_neg (by decide)]
  have : replaceNum l [0] (-1) = count l [0] := by simp [replaceNum]
  rw [this, repl_esc]
/-- the key of a list of texts -/
def keyL (l : List (List UInt8)) : List UInt8 := l.flatMap fun s => esc s ++ [0, 1]
theorem esc_inj : ∀ {a b x y : List UInt8}, esc a ++ 0 :: 1 :: x = esc b ++ 0 :: 1 :: y → a = b ∧ x = y
  | [], [], x, y, h => by simpa [esc] using h
  | [], c :: b, x, y, h => by
    simp only [esc] at h
    split at h
    · simp at h
    · rename_i hc
      simp at h
      exact absurd h.1.symm hc
  | c :: a, [], x, y, h => by
    simp only [esc] at h
    split at h
    · simp at h
    · rename_i hc
      simp at h
      exact absurd h.1 hc
  | c :: a, d :: b, x, y, h => by
    simp only [esc] at h
    split at h <;> split at h
    · rename_i h1 h2
      simp only [List.cons_append, List.cons.injEq, true_and] at h
      obtain ⟨h3, h4⟩ := esc_inj h
      exact ⟨by rw [h1, h2, h3], h4⟩
    · rename_i h1 h2
      simp only [List.cons_append, List.cons.injEq] at h
      exact absurd h.1.symm h2
    · rename_i h1 h2
      simp only [List.cons_append, List.cons.injEq] at h
      exact absurd h.1 h1
    · simp only [List.cons_append, List.cons.injEq] at h
      obtain ⟨h3, h4⟩ := esc_inj h.2
      exact ⟨by rw [h.1, h3], h4⟩
theorem keyL_inj : ∀ {a b : List (List UInt8)}, keyL a = keyL b → a = b
  | [], [], _ => rfl
  | [], s :: b, h => by
    have := congrArg List.length h
    simp [keyL] at this
  | s :: a, [], h => by
    have := congrArg List.length h
    simp [keyL] at this
  | s :: a, t :: b, h => by
    simp only [keyL, List.flatMap_cons, List.append_assoc, List.cons_append, List.nil_append] at h
    obtain ⟨h1, h2⟩ := esc_inj h
    rw [h1, keyL_inj h2]
theorem keyL_app (a b : List (List UInt8)) : keyL (a ++ b) = keyL a ++ keyL b := by simp [keyL]
end Go.Proofs.YtbdpceigmnpoaaaGreatDoor.Ev
