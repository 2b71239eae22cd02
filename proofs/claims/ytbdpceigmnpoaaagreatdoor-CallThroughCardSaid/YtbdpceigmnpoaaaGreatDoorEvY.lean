/- Slices that are cut and grow again. -/
import Derived.Test.YtbdpceigmnpoaaaGreatDoorEvX
set_option linter.unusedSimpArgs false
set_option linter.unusedVariables false
namespace Go.Proofs.YtbdpceigmnpoaaaGreatDoor.Ev

theorem Out.cut {n sz ty : Nat} {X : Heap} {rv : AV} {rows : List (List AV)} (h : Out n sz ty X rv rows) (H0 : Heap) (hn : n = H0.length) {k : Nat} (hk : k ≤ rows.length) :
    ∃ sv, sv.isTup = false ∧ (∀ Y, evSlc Y sz rv none (some k) none = some sv) ∧ ∀ (Y : Heap) (bytes : Nat) (a : AV) (src : List (List AV)), src ≠ [] → srcRows (H0 ++ (X ++ Y)) a = some src → headOk sz src = true → (k + src.length) * bytes ≤ reach → k + src.length ≤ reach →
      ∃ rv' X', appK ty sz bytes false (H0 ++ (X ++ Y)) (some sv) (some a) = some (rv', H0 ++ X') ∧ rv'.isTup = false ∧ Out n sz ty X' rv' (rows.take k ++ src) := by
  subst hn
  rcases h with ⟨rfl, hrv⟩ | ⟨h1, j, v, rfl, h3⟩
  · have hk0 : k = 0 := by simpa using hk
    subst hk0
    refine ⟨rv, by rcases hrv with rfl | rfl <;> rfl, fun Y => by rcases hrv with rfl | rfl <;> rfl, fun Y bytes a src h1 h2 h3 h4 h5 => ?_⟩
    have ho : Out H0.length sz ty (X ++ Y) rv [] := .inl ⟨rfl, hrv⟩
    obtain ⟨r, rs, rfl⟩ : ∃ r rs, src = r :: rs := by cases src with
      | nil => exact absurd rfl h1
      | cons r rs => exact ⟨r, rs, rfl⟩
    have hap := out_app ho bytes H0 rfl a
    rw [h2, apO_cons, if_pos ⟨by simpa [headOk] using h3, by simpa using h4, by simpa using h5⟩] at hap
    have hstep := ho.step (src := r :: rs) (by simp)
    exact ⟨_, _, hap, out_tup hstep, by simpa using hstep⟩
  · have hj := (List.getElem?_eq_some_iff.1 h3).1
    refine ⟨.ref (H0.length + j) v sz 0 k, rfl, fun Y => by simp [evSlc, hk], fun Y bytes a src h1 h2 h4 h5 h6 => ?_⟩
    obtain ⟨r, rs, rfl⟩ : ∃ r rs, src = r :: rs := by cases src with
      | nil => exact absurd rfl h1
      | cons r rs => exact ⟨r, rs, rfl⟩
    have hr : r.length = sz := by simpa [headOk] using h4
    have hat : (H0 ++ (X ++ Y))[H0.length + j]? = some ⟨v, true, ty, sz, rows⟩ := by
      rw [at_app, List.getElem?_append_left hj, h3]
    refine ⟨.ref (H0.length + j) (v + 1) sz 0 (k + (rs.length + 1)), (X ++ Y).set j ⟨v + 1, true, ty, sz, rows.take k ++ r :: rs⟩, ?_, rfl, ?_⟩
    · rw [app_ref, hat, h2]
      simp only [List.length_cons] at h5 h6
      simp [apR_cons, blkK_some, set_app, hr, h5, h6]
    · refine .inr ⟨by simp, j, v + 1, ?_, ?_⟩
      · simp [List.length_take, Nat.min_eq_left hk]
      · rw [List.getElem?_set_self (by rw [List.length_append]; omega)]
/-- scan_rule, where each step may lean on the elements ahead of it -/
theorem scan_pre {α : Type} (l : List α) (ok : Nat → α → Bool) (m : List Nat) (env : Nat → Env) (H K : Heap) (body : St → Option (CX × St)) (A : CX → Env → Prop) (B : Nat → α → CX → Env → Prop)
    (step : ∀ i x, l[i]? = some x → (∀ j y, j < i → l[j]? = some y → ok j y = true) → ∀ E G, keepEnv E m = env i → Sc m (env (i + 1)) H K (B i x) (ok i x) (body (E, H ++ (K ++ G))))
    (fin : (∀ j y, l[j]? = some y → ok j y = true) → ∀ E G, keepEnv E m = env l.length → Lv H K A (body (E, H ++ (K ++ G)))) :
    ∀ (st : St) (G : Heap), keepEnv st.1 m = env 0 → st.2 = H ++ (K ++ G) → ∀ z, itLim body st = z →
      ((∀ i x, l[i]? = some x → ok i x = true) ∧ Lv H K A z) ∨ (∃ i x, l[i]? = some x ∧ ok i x = false ∧ (∀ j y, j < i → l[j]? = some y → ok j y = true) ∧ Lv H K (B i x) z) := by
  have key : ∀ (n i : Nat) (E : Env) (G : Heap), l.length - i = n → i ≤ l.length → (∀ j y, j < i → l[j]? = some y → ok j y = true) → keepEnv E m = env i →
      ((∀ i x, l[i]? = some x → ok i x = true) ∧ Lv H K A (itLim body (E, H ++ (K ++ G)))) ∨ (∃ i x, l[i]? = some x ∧ ok i x = false ∧ (∀ j y, j < i → l[j]? = some y → ok j y = true) ∧ Lv H K (B i x) (itLim body (E, H ++ (K ++ G)))) := by
    intro n
    induction n with
    | zero =>
      intro i E G hn hi hb hE
      have : i = l.length := by omega
      subst this
      refine .inl ⟨fun j x hx => hb j x ((List.getElem?_eq_some_iff.1 hx).1) hx, ?_⟩
      obtain ⟨c, T, G', h1, h2, h3⟩ := fin (fun j x hx => hb j x ((List.getElem?_eq_some_iff.1 hx).1) hx) E G hE
      refine ⟨c, T, G', ?_, h2, h3⟩
      rw [itLim_eq, h1]
      cases c <;> first | exact absurd rfl h2 | rfl
    | succ n ih =>
      intro i E G hn hi hb hE
      have hlt : i < l.length := by omega
      obtain ⟨x, hx⟩ : ∃ x, l[i]? = some x := ⟨_, List.getElem?_eq_getElem hlt⟩
      have hs := step i x hx hb E G hE
      cases hok : ok i x with
      | true =>
        obtain ⟨T, G', h1, h2⟩ := hs.go hok
        rw [itLim_eq, h1]
        refine ih (i + 1) T G' (by omega) (by omega) (fun j y hj hy => ?_) h2
        by_cases hji : j < i
        · exact hb j y hji hy
        · have : j = i := by omega
          subst this
          rw [hx] at hy; cases hy; exact hok
      | false =>
        refine .inr ⟨i, x, hx, hok, hb, ?_⟩
        obtain ⟨c, T, G', h1, h2, h3⟩ := hs.no hok
        refine ⟨c, T, G', ?_, h2, h3⟩
        rw [itLim_eq, h1]
        cases c <;> first | exact absurd rfl h2 | rfl
  intro st G hE hH z hz
  obtain ⟨E, H1⟩ := st
  simp only at hE hH
  subst hH
  subst hz
  exact key _ 0 E G rfl (Nat.zero_le _) (fun j y hj => by omega) hE
/-- the block of a slice that grows -/
def oblk : AV → Option Nat
  | .ref b _ _ _ _ => some b
  | _ => none
/-- the other blocks stay -/
def Keeps (n : Nat) (X : Heap) (rv : AV) (X' : Heap) : Prop := ∀ (i : Nat) (k : Blk), X[i]? = some k → oblk rv ≠ some (n + i) → X'[i]? = some k
def Moved (n : Nat) (X : Heap) (rv rv' : AV) : Prop := (oblk rv ≠ none ∧ oblk rv' = oblk rv) ∨ ∃ m, X.length ≤ m ∧ oblk rv' = some (n + m)
theorem Keeps.out {n : Nat} {X : Heap} {rv : AV} {X' : Heap} (h : Keeps n X rv X') {sz ty : Nat} {rv2 : AV} {rows : List (List AV)} (ho : Out n sz ty X rv2 rows) (hd : oblk rv2 = none ∨ oblk rv2 ≠ oblk rv) : Out n sz ty X' rv2 rows := by
  rcases ho with ho | ⟨h1, j, v, rfl, h3⟩
  · exact .inl ho
  · refine .inr ⟨h1, j, v, rfl, h j _ h3 ?_⟩
    rcases hd with hd | hd
    · cases hd
    · exact fun e => hd e.symm
theorem Moved.apart {n : Nat} {X : Heap} {rv rv' : AV} (h : Moved n X rv rv') {sz ty : Nat} {rv2 : AV} {rows : List (List AV)} (ho : Out n sz ty X rv2 rows) (hd : oblk rv2 = none ∨ oblk rv2 ≠ oblk rv) : oblk rv2 = none ∨ oblk rv2 ≠ oblk rv' := by
  rcases hd with hd | hd
  · exact .inl hd
  rcases h with ⟨_, h⟩ | ⟨m, hm, h⟩
  · rw [h]; exact .inr hd
  · rcases ho with ⟨_, rfl | rfl⟩ | ⟨h1, j, v, rfl, h3⟩
    · exact .inl rfl
    · exact .inl rfl
    · refine .inr ?_
      rw [h]
      have := (List.getElem?_eq_some_iff.1 h3).1
      simp only [oblk, ne_eq, Option.some.injEq]
      omega
theorem Out.cut2 {n sz ty : Nat} {X : Heap} {rv : AV} {rows : List (List AV)} (h : Out n sz ty X rv rows) (H0 : Heap) (hn : n = H0.length) {k : Nat} (hk : k ≤ rows.length) :
    ∃ sv, sv.isTup = false ∧ (∀ Y, evSlc Y sz rv none (some k) none = some sv) ∧ ∀ (Y : Heap) (bytes : Nat) (a : AV) (src : List (List AV)), src ≠ [] → srcRows (H0 ++ (X ++ Y)) a = some src → headOk sz src = true → (k + src.length) * bytes ≤ reach → k + src.length ≤ reach →
      ∃ rv' X', appK ty sz bytes false (H0 ++ (X ++ Y)) (some sv) (some a) = some (rv', H0 ++ X') ∧ rv'.isTup = false ∧ Out n sz ty X' rv' (rows.take k ++ src) ∧ Keeps n (X ++ Y) rv X' ∧ Moved n X rv rv' := by
  subst hn
  rcases h with ⟨rfl, hrv⟩ | ⟨h1, j, v, rfl, h3⟩
  · have hk0 : k = 0 := by simpa using hk
    subst hk0
    refine ⟨rv, by rcases hrv with rfl | rfl <;> rfl, fun Y => by rcases hrv with rfl | rfl <;> rfl, fun Y bytes a src h1 h2 h3 h4 h5 => ?_⟩
    have ho : Out H0.length sz ty (X ++ Y) rv [] := .inl ⟨rfl, hrv⟩
    obtain ⟨r, rs, rfl⟩ : ∃ r rs, src = r :: rs := by cases src with
      | nil => exact absurd rfl h1
      | cons r rs => exact ⟨r, rs, rfl⟩
    have hap := out_app ho bytes H0 rfl a
    rw [h2, apO_cons, if_pos ⟨by simpa [headOk] using h3, by simpa using h4, by simpa using h5⟩] at hap
    have hstep := ho.step (src := r :: rs) (by simp)
    refine ⟨_, _, hap, out_tup hstep, by simpa using hstep, fun i k hi _ => ?_, .inr ⟨(X ++ Y).length, by simp, ?_⟩⟩
    · rcases hrv with rfl | rfl <;> simp only [oStep] <;> rw [List.getElem?_append_left (List.getElem?_eq_some_iff.1 hi).1, hi]
    · rcases hrv with rfl | rfl <;> rfl
  · have hj := (List.getElem?_eq_some_iff.1 h3).1
    refine ⟨.ref (H0.length + j) v sz 0 k, rfl, fun Y => by simp [evSlc, hk], fun Y bytes a src h1 h2 h4 h5 h6 => ?_⟩
    obtain ⟨r, rs, rfl⟩ : ∃ r rs, src = r :: rs := by cases src with
      | nil => exact absurd rfl h1
      | cons r rs => exact ⟨r, rs, rfl⟩
    have hr : r.length = sz := by simpa [headOk] using h4
    have hat : (H0 ++ (X ++ Y))[H0.length + j]? = some ⟨v, true, ty, sz, rows⟩ := by
      rw [at_app, List.getElem?_append_left hj, h3]
    refine ⟨.ref (H0.length + j) (v + 1) sz 0 (k + (rs.length + 1)), (X ++ Y).set j ⟨v + 1, true, ty, sz, rows.take k ++ r :: rs⟩, ?_, rfl, ?_, fun i k hi hne => ?_, .inl ⟨by simp [oblk], rfl⟩⟩
    · rw [app_ref, hat, h2]
      simp only [List.length_cons] at h5 h6
      simp [apR_cons, blkK_some, set_app, hr, h5, h6]
    · refine .inr ⟨by simp, j, v + 1, ?_, ?_⟩
      · simp [List.length_take, Nat.min_eq_left hk]
      · rw [List.getElem?_set_self (by rw [List.length_append]; omega)]
    · have : j ≠ i := fun e => hne (by simp [oblk, e])
      rw [List.getElem?_set_ne this]; exact hi
end Go.Proofs.YtbdpceigmnpoaaaGreatDoor.Ev
