/- What a loop collects (generic). -/
import Derived.Test.YtbdpceigmnpoaaaGreatDoorEvZ
import Derived.Test.YtbdpceigmnpoaaaGreatDoorEvY
set_option linter.unusedSimpArgs false
set_option linter.unusedVariables false
namespace Go.Proofs.YtbdpceigmnpoaaaGreatDoor.Code
open Go.Proofs.YtbdpceigmnpoaaaGreatDoor.Ev

/-- what is gathered, element by element -/
def gath {α β : Type} (g : Nat → α → List β) : Nat → List α → List β
  | _, [] => []
  | k, x :: l => g k x ++ gath g (k + 1) l
theorem gath_take {α β : Type} (g : Nat → α → List β) : ∀ (l : List α) (k i : Nat) (x : α), l[i]? = some x → gath g k (l.take (i + 1)) = gath g k (l.take i) ++ g (k + i) x
  | [], k, i, x, h => by simp at h
  | y :: l, k, 0, x, h => by
    simp at h; subst h
    simp [gath]
  | y :: l, k, i + 1, x, h => by
    rw [List.take_succ_cons, List.take_succ_cons, gath, gath, gath_take g l (k + 1) i x (by simpa using h), List.append_assoc, show k + 1 + i = k + (i + 1) by omega]
theorem gath_len {α β : Type} (g : Nat → α → List β) (h : ∀ i x, (g i x).length ≤ 1) : ∀ (l : List α) (k : Nat), (gath g k l).length ≤ l.length
  | [], k => by simp [gath]
  | y :: l, k => by
    have := gath_len g h l (k + 1)
    have := h k y
    simp only [gath, List.length_append, List.length_cons]; omega
theorem gath_congr {α β : Type} {g g' : Nat → α → List β} : ∀ (l : List α) (k : Nat), (∀ i x, l[i]? = some x → g (k + i) x = g' (k + i) x) → gath g k l = gath g' k l
  | [], k, _ => rfl
  | y :: l, k, h => by
    have h0 := h 0 y rfl
    simp only [Nat.add_zero] at h0
    have h1 := gath_congr (g := g) (g' := g') l (k + 1) fun i x hx => by
      rw [show k + 1 + i = k + (i + 1) by omega]
      exact h (i + 1) x (by simpa using hx)
    rw [gath, gath, h0, h1]
theorem mem_gath {α β : Type} {g : Nat → α → List β} {b : β} : ∀ {l : List α} {k : Nat}, b ∈ gath g k l ↔ ∃ i x, l[i]? = some x ∧ b ∈ g (k + i) x
  | [], k => by simp [gath]
  | y :: l, k => by
    rw [gath, List.mem_append, mem_gath (l := l)]
    constructor
    · rintro (h | ⟨i, x, hx, h⟩)
      · exact ⟨0, y, rfl, h⟩
      · exact ⟨i + 1, x, by simpa using hx, by rwa [show k + (i + 1) = k + 1 + i by omega]⟩
    · rintro ⟨i, x, hx, h⟩
      cases i with
      | zero => simp at hx; subst hx; exact .inl h
      | succ i => exact .inr ⟨i, x, by simpa using hx, by rwa [show k + 1 + i = k + (i + 1) by omega]⟩
/-- a loop that gathers into a slice that grows -/
theorem gath_rule {α β : Type} (l : List α) (g : Nat → α → List β) (enc : β → List AV) (m : List Nat) (env : Nat → AV → Env) (H : Heap) (sz ty : Nat) (body : St → Option (CX × St)) (x0 : Nat) (mo : List Nat) (eo : AV → Env)
    (step : ∀ i x, l[i]? = some x → ∀ E X rv, keepEnv E m = env i rv → Out H.length sz ty X rv ((gath g 0 (l.take i)).map enc) →
      ∃ T X' rv', body (E, H ++ X) = some (.normal, T, H ++ X') ∧ keepEnv T m = env (i + 1) rv' ∧ Out H.length sz ty X' rv' ((gath g 0 (l.take i)).map enc ++ (g i x).map enc))
    (fin : ∀ E X rv, keepEnv E m = env l.length rv → ∃ T, body (E, H ++ X) = some (.exit x0, T, H ++ X) ∧ keepEnv T mo = eo rv)
    (st : St) (X0 : Heap) (rv0 : AV) (h0 : Out H.length sz ty X0 rv0 []) (hE : keepEnv st.1 m = env 0 rv0) (hH : st.2 = H ++ X0) (z : Option (CX × St)) (hz : itLim body st = z) :
    ∃ T X rv, z = some (.exit x0, T, H ++ X) ∧ keepEnv T mo = eo rv ∧ Out H.length sz ty X rv ((gath g 0 l).map enc) := by
  have L := loop_rule (σ := Nat × Heap × AV) (m := m) (env := fun s => env s.1 s.2.2) (hp := fun s => H ++ s.2.1)
    (P := fun _ r => ∃ T X rv, r = (.exit x0, T, H ++ X) ∧ keepEnv T mo = eo rv ∧ Out H.length sz ty X rv ((gath g 0 l).map enc))
    (mu := fun s => l.length - s.1) (I := fun s => s.1 ≤ l.length ∧ Out H.length sz ty s.2.1 s.2.2 ((gath g 0 (l.take s.1)).map enc)) body ?_ (0, X0, rv0) st ⟨by simp, by simpa [gath] using h0⟩ hE hH z hz
  · obtain ⟨_, rfl, T, X, rv, rfl, h⟩ := L
    exact ⟨T, X, rv, rfl, h⟩
  · intro ⟨i, X, rv⟩ ⟨hi, hO⟩ E hE
    simp only at hi hO hE ⊢
    by_cases hlt : i < l.length
    · obtain ⟨x, hx⟩ : ∃ x, l[i]? = some x := ⟨_, List.getElem?_eq_getElem hlt⟩
      obtain ⟨T, X', rv', h1, h2, h3⟩ := step i x hx E X rv hE hO
      rw [h1]
      refine q_next (i + 1, X', rv') h2 rfl ⟨by omega, ?_⟩ (by simp only; omega) fun r h => h
      simp only [gath_take g l 0 i x hx, Nat.zero_add, List.map_append]
      exact h3
    · have : i = l.length := by omega
      subst this
      obtain ⟨T, h1, h2⟩ := fin E X rv hE
      rw [h1]
      rw [List.take_of_length_le (Nat.le_refl _)] at hO
      exact q_exit ⟨_, _, _, rfl, h2, hO⟩
/-- the same behind what was gathered before -/
theorem gath_pre {α β : Type} (l : List α) (g : Nat → α → List β) (enc : β → List AV) (pre : List (List AV)) (m : List Nat) (env : Nat → AV → Env) (H : Heap) (sz ty : Nat) (body : St → Option (CX × St)) (x0 : Nat) (mo : List Nat) (eo : AV → Env)
    (step : ∀ i x, l[i]? = some x → ∀ E X rv, keepEnv E m = env i rv → Out H.length sz ty X rv (pre ++ (gath g 0 (l.take i)).map enc) →
      ∃ T X' rv', body (E, H ++ X) = some (.normal, T, H ++ X') ∧ keepEnv T m = env (i + 1) rv' ∧ Out H.length sz ty X' rv' (pre ++ (gath g 0 (l.take i)).map enc ++ (g i x).map enc))
    (fin : ∀ E X rv, keepEnv E m = env l.length rv → ∃ T, body (E, H ++ X) = some (.exit x0, T, H ++ X) ∧ keepEnv T mo = eo rv)
    (st : St) (X0 : Heap) (rv0 : AV) (h0 : Out H.length sz ty X0 rv0 pre) (hE : keepEnv st.1 m = env 0 rv0) (hH : st.2 = H ++ X0) (z : Option (CX × St)) (hz : itLim body st = z) :
    ∃ T X rv, z = some (.exit x0, T, H ++ X) ∧ keepEnv T mo = eo rv ∧ Out H.length sz ty X rv (pre ++ (gath g 0 l).map enc) := by
  have L := loop_rule (σ := Nat × Heap × AV) (m := m) (env := fun s => env s.1 s.2.2) (hp := fun s => H ++ s.2.1)
    (P := fun _ r => ∃ T X rv, r = (.exit x0, T, H ++ X) ∧ keepEnv T mo = eo rv ∧ Out H.length sz ty X rv (pre ++ (gath g 0 l).map enc))
    (mu := fun s => l.length - s.1) (I := fun s => s.1 ≤ l.length ∧ Out H.length sz ty s.2.1 s.2.2 (pre ++ (gath g 0 (l.take s.1)).map enc)) body ?_ (0, X0, rv0) st ⟨by simp, by simpa [gath] using h0⟩ hE hH z hz
  · obtain ⟨_, rfl, T, X, rv, rfl, h⟩ := L
    exact ⟨T, X, rv, rfl, h⟩
  · intro ⟨i, X, rv⟩ ⟨hi, hO⟩ E hE
    simp only at hi hO hE ⊢
    by_cases hlt : i < l.length
    · obtain ⟨x, hx⟩ : ∃ x, l[i]? = some x := ⟨_, List.getElem?_eq_getElem hlt⟩
      obtain ⟨T, X', rv', h1, h2, h3⟩ := step i x hx E X rv hE hO
      rw [h1]
      refine q_next (i + 1, X', rv') h2 rfl ⟨by omega, ?_⟩ (by simp only; omega) fun r h => h
      simp only [gath_take g l 0 i x hx, Nat.zero_add, List.map_append]
      simpa only [List.append_assoc] using h3
    · have : i = l.length := by omega
      subst this
      obtain ⟨T, h1, h2⟩ := fin E X rv hE
      rw [h1]
      rw [List.take_of_length_le (Nat.le_refl _)] at hO
      exact q_exit ⟨_, _, _, rfl, h2, hO⟩
theorem app_row {n sz ty : Nat} {X : Heap} {rv : AV} {rows : List (List AV)} (h : Out n sz ty X rv rows) (H0 : Heap) (hn : n = H0.length) (bytes : Nat) (r : List AV) (hr : r.length = sz) (hb : (rows.length + 1) * bytes ≤ reach ∧ rows.length + 1 ≤ reach) :
    ∃ rv' X', appK ty sz bytes false (H0 ++ (X ++ [⟨0, true, ty, sz, [r]⟩])) (some rv) (some (.ref (n + X.length) 0 sz 0 1)) = some (rv', H0 ++ X') ∧ rv'.isTup = false ∧ Out n sz ty X' rv' (rows ++ [r]) ∧ Keeps n (X ++ [⟨0, true, ty, sz, [r]⟩]) rv X' ∧ Moved n (X ++ [⟨0, true, ty, sz, [r]⟩]) rv rv' := by
  subst hn
  exact (h.more [⟨0, true, ty, sz, [r]⟩]).app2 H0 rfl bytes _ [r] (by simp [srcRows, rowsOf, curBlk, at_app]) (by simpa using hr) (by simp) (by simpa using hb)
end Go.Proofs.YtbdpceigmnpoaaaGreatDoor.Code
