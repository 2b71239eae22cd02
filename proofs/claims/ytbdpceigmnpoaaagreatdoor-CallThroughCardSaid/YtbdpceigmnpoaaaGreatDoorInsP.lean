/- What slices.Insert of one element computes. -/
import Derived.Test.YtbdpceigmnpoaaaGreatDoorEvN
set_option linter.unusedSimpArgs false
set_option linter.unusedVariables false
namespace Go.Proofs.YtbdpceigmnpoaaaGreatDoor.Ev

/-- of a slice from a block's beginning on, and one element that has a block of its own; or of nothing -/
def pIns (sz ty bytes : Nat) : List AV → Heap → Option (List AV × Heap)
  | [.ref b v s 0 n, .int .i64 i, .ref bv vv s' 0 1], H => match curBlk H b v sz, curBlk H bv vv sz with
    | some k, some kv => match kv.els[0]? with
      | some row => if s = sz ∧ s' = sz ∧ k.ty = ty ∧ kv.ty = ty ∧ b ≠ bv ∧ n ≤ k.els.length ∧ 0 ≤ i ∧ i ≤ (n : Int) ∧ (n + 1) * bytes ≤ reach ∧ n + 1 ≤ reach then
          some ([.ref b (v + 1) sz 0 (n + 1)], H.set b { k with ver := v + 1, els := (k.els.take n).take i.toNat ++ row :: (k.els.take n).drop i.toNat }) else none
      | none => none
    | _, _ => none
  | [.nils, .int .i64 0, .ref bv vv s' 0 1], H => match curBlk H bv vv sz with
    | some kv => match kv.els[0]? with
      | some row => if s' = sz ∧ kv.ty = ty then some ([.ref H.length 0 sz 0 1], H ++ [⟨0, true, ty, sz, [row]⟩]) else none
      | none => none
    | none => none
  | [.nil0, .int .i64 0, .ref bv vv s' 0 1], H => match curBlk H bv vv sz with
    | some kv => match kv.els[0]? with
      | some row => if s' = sz ∧ kv.ty = ty then some ([.ref H.length 0 sz 0 1], H ++ [⟨0, true, ty, sz, [row]⟩]) else none
      | none => none
    | none => none
  | _, _ => none
theorem pIns_some {sz ty bytes : Nat} {args : List AV} {H : Heap} {q : List AV × Heap} (h : pIns sz ty bytes args H = some q) :
    (∃ b v n i bv vv k kv row, args = [.ref b v sz 0 n, .int .i64 i, .ref bv vv sz 0 1] ∧ curBlk H b v sz = some k ∧ curBlk H bv vv sz = some kv ∧ kv.els[0]? = some row ∧ k.ty = ty ∧ kv.ty = ty ∧ b ≠ bv ∧ n ≤ k.els.length ∧ 0 ≤ i ∧ i ≤ (n : Int) ∧ (n + 1) * bytes ≤ reach ∧ n + 1 ≤ reach ∧
      q.1 = [.ref b (v + 1) sz 0 (n + 1)] ∧ q.2 = H.set b { k with ver := v + 1, els := (k.els.take n).take i.toNat ++ row :: (k.els.take n).drop i.toNat }) ∨
    (∃ a bv vv kv row, args = [a, .int .i64 0, .ref bv vv sz 0 1] ∧ (a = .nils ∨ a = .nil0) ∧ curBlk H bv vv sz = some kv ∧ kv.els[0]? = some row ∧ kv.ty = ty ∧ q.1 = [.ref H.length 0 sz 0 1] ∧ q.2 = H ++ [⟨0, true, ty, sz, [row]⟩]) := by
  unfold pIns at h
  split at h
  · split at h
    · rename_i k kv hk hkv
      split at h
      · rename_i row hrow
        split at h
        · rename_i hc
          obtain ⟨rfl, rfl, h1, h2, h3, h4, h5, h6, h7, h8⟩ := hc
          cases h
          exact .inl ⟨_, _, _, _, _, _, k, kv, row, rfl, hk, hkv, hrow, h1, h2, h3, h4, h5, h6, h7, h8, rfl, rfl⟩
        · cases h
      · cases h
    · cases h
  · split at h
    · rename_i kv hkv
      split at h
      · rename_i row hrow
        split at h
        · rename_i hc
          obtain ⟨rfl, h1⟩ := hc
          cases h
          exact .inr ⟨_, _, _, kv, row, rfl, .inl rfl, hkv, hrow, h1, rfl, rfl⟩
        · cases h
      · cases h
    · cases h
  · split at h
    · rename_i kv hkv
      split at h
      · rename_i row hrow
        split at h
        · rename_i hc
          obtain ⟨rfl, h1⟩ := hc
          cases h
          exact .inr ⟨_, _, _, kv, row, rfl, .inr rfl, hkv, hrow, h1, rfl, rfl⟩
        · cases h
      · cases h
    · cases h
  · cases h
end Go.Proofs.YtbdpceigmnpoaaaGreatDoor.Ev
