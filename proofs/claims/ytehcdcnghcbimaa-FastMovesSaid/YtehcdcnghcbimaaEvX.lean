/- Slices that grow by append; calls frozen. -/
import Derived.Test.YtehcdcnghcbimaaEvW
set_option linter.unusedSimpArgs false
set_option linter.unusedVariables false
namespace Go.Proofs.Ytehcdcnghcbimaa.Ev

/-- what has been appended so far: nothing, or a block of its own in X, that lies behind n blocks -/
def Out (n sz ty : Nat) (X : Heap) (rv : AV) (rows : List (List AV)) : Prop :=
  (rows = [] ∧ (rv = .nils ∨ rv = .nil0)) ∨ (rows ≠ [] ∧ ∃ j v, rv = .ref (n + j) v sz 0 rows.length ∧ X[j]? = some ⟨v, true, ty, sz, rows⟩)
def oStep (n sz ty : Nat) (X : Heap) (rv : AV) (rows src : List (List AV)) : AV × Heap :=
  match rv with
  | .ref b v _ _ len => (.ref b (v + 1) sz 0 (len + src.length), X.set (b - n) ⟨v + 1, true, ty, sz, rows ++ src⟩)
  | _ => (.ref (n + X.length) 0 sz 0 src.length, X ++ [⟨0, true, ty, sz, src⟩])
theorem Out.nils (n sz ty : Nat) (X : Heap) : Out n sz ty X .nils [] := .inl ⟨rfl, .inl rfl⟩
theorem Out.more {n sz ty : Nat} {X : Heap} {rv : AV} {rows : List (List AV)} (h : Out n sz ty X rv rows) (Y : Heap) : Out n sz ty (X ++ Y) rv rows := by
  rcases h with h | ⟨h1, j, v, h2, h3⟩
  · exact .inl h
  · exact .inr ⟨h1, j, v, h2, by rw [List.getElem?_append_left (List.getElem?_eq_some_iff.1 h3).1]; exact h3⟩
theorem Out.step {n sz ty : Nat} {X : Heap} {rv : AV} {rows : List (List AV)} (h : Out n sz ty X rv rows) {src : List (List AV)} (hne : src ≠ []) :
    Out n sz ty (oStep n sz ty X rv rows src).2 (oStep n sz ty X rv rows src).1 (rows ++ src) := by
  rcases h with ⟨rfl, rfl | rfl⟩ | ⟨h1, j, v, rfl, h3⟩
  · exact .inr ⟨by simpa using hne, X.length, 0, rfl, by simp [oStep]⟩
  · exact .inr ⟨by simpa using hne, X.length, 0, rfl, by simp [oStep]⟩
  · refine .inr ⟨by simp [h1], j, v + 1, by simp [oStep], ?_⟩
    have := (List.getElem?_eq_some_iff.1 h3).1
    simp [oStep, this]
/-- the blocks of X that are not what grows stay -/
theorem oStep_keep {n sz ty : Nat} {X : Heap} {rv : AV} {rows src : List (List AV)} (h : Out n sz ty X rv rows) : X.length ≤ (oStep n sz ty X rv rows src).2.length := by
  rcases h with ⟨rfl, rfl | rfl⟩ | ⟨h1, j, v, rfl, h3⟩
  · simp [oStep]
  · simp [oStep]
  · simp [oStep]
def apO (bytes : Nat) (n sz ty : Nat) (H0 X : Heap) (rv : AV) (rows : List (List AV)) (src : Option (List (List AV))) : Option (AV × Heap) :=
  match src with
  | some (r :: rs) => if r.length = sz ∧ (rows.length + (rs.length + 1)) * bytes ≤ reach ∧ rows.length + (rs.length + 1) ≤ reach then some ((oStep n sz ty X rv rows (r :: rs)).1, H0 ++ (oStep n sz ty X rv rows (r :: rs)).2) else none
  | some [] => some (rv, H0 ++ X)
  | none => none
theorem apO_nil (bytes n sz ty : Nat) (H0 X : Heap) (rv : AV) (rows : List (List AV)) : apO bytes n sz ty H0 X rv rows (some []) = some (rv, H0 ++ X) := rfl
theorem apO_cons (bytes n sz ty : Nat) (H0 X : Heap) (rv : AV) (rows : List (List AV)) (r : List AV) (rs : List (List AV)) : apO bytes n sz ty H0 X rv rows (some (r :: rs)) =
    if r.length = sz ∧ (rows.length + (rs.length + 1)) * bytes ≤ reach ∧ rows.length + (rs.length + 1) ≤ reach then some ((oStep n sz ty X rv rows (r :: rs)).1, H0 ++ (oStep n sz ty X rv rows (r :: rs)).2) else none := rfl
theorem out_app {n sz ty : Nat} {X : Heap} {rv : AV} {rows : List (List AV)} (h : Out n sz ty X rv rows) (bytes : Nat) (H0 : Heap) (hn : n = H0.length) (a : AV) :
    appK ty sz bytes false (H0 ++ X) (some rv) (some a) = apO bytes n sz ty H0 X rv rows (srcRows (H0 ++ X) a) := by
  subst hn
  rcases h with ⟨rfl, rfl | rfl⟩ | ⟨h1, j, v, rfl, h3⟩
  · rw [app_nils]
    cases srcRows (H0 ++ X) a with
    | none => rfl
    | some src =>
      cases src with
      | nil => rfl
      | cons r rs => simp [apS, apN, apO, oStep]
  · rw [app_nil0']
    cases srcRows (H0 ++ X) a with
    | none => rfl
    | some src =>
      cases src with
      | nil => rfl
      | cons r rs => simp [apS, apN, apO, oStep]
  · rw [app_ref, at_app, h3]
    cases srcRows (H0 ++ X) a with
    | none => rfl
    | some src =>
      cases src with
      | nil => rfl
      | cons r rs => simp [apR_cons, apO, oStep, blkK_some, set_app]
theorem out_len {n sz ty : Nat} {X : Heap} {rv : AV} {rows : List (List AV)} (h : Out n sz ty X rv rows) : lenK false (some rv) = some (.int .i64 (rows.length : Int)) := by
  rcases h with ⟨rfl, rfl | rfl⟩ | ⟨h1, j, v, rfl, h3⟩ <;> rfl
theorem out_tup {n sz ty : Nat} {X : Heap} {rv : AV} {rows : List (List AV)} (h : Out n sz ty X rv rows) : rv.isTup = false := by
  rcases h with ⟨rfl, rfl | rfl⟩ | ⟨h1, j, v, rfl, h3⟩ <;> rfl
theorem out_slat {n sz ty : Nat} {X : Heap} {rv : AV} {rows : List (List AV)} (h : Out n sz ty X rv rows) (H0 : Heap) (hn : n = H0.length) (hsz : ∀ r ∈ rows, r.length = sz) : SlAt (H0 ++ X) sz rv rows := by
  subst hn
  rcases h with ⟨rfl, rfl | rfl⟩ | ⟨h1, j, v, rfl, h3⟩
  · exact ⟨rfl, fun i row hi => by simp at hi⟩
  · exact ⟨rfl, fun i row hi => by simp at hi⟩
  · exact .ref (k := ⟨v, true, ty, sz, rows⟩) (by simp [curBlk, at_app, h3]) fun i row hi => by
      rw [Nat.zero_add]
      exact ⟨hsz row (List.mem_of_getElem? hi), hi⟩

/-! arrays behind pointers, and numbers that stand in the code -/
def iaAK (b v s j o esz len : Nat) (n : Option Nat) : Option AV :=
  match n with
  | some n => if n < len then some (.ptr b v s j (o + n * esz)) else none
  | none => none
def iaAF (cs : List AV) (esz len : Nat) (n : Option Nat) : Option AV :=
  match n with
  | some n => if n < len then some (.fptr (cs.drop (n * esz))) else none
  | none => none
def iaddrAK (esz len : Nat) (x i : Option AV) : Option AV :=
  match x, i with
  | some (.ptr b v s j o), some iv => iaAK b v s j o esz len (asNat iv)
  | some (.fptr cs), some iv => iaAF cs esz len (asNat iv)
  | _, _ => none
theorem p_iaddrA {call : Nat → List AV → Heap → Option (AV × Heap)} (T : Env) (H : Heap) (esz len : Nat) (x i : COpd) : evOp call T H (.iaddrA esz len x i) = pureK H (iaddrAK esz len (evOpd T x) (evOpd T i)) := by
  rw [evOp_pureK rfl]
  congr 1
theorem iaddrA_ptr (esz len b v s j o : Nat) (iv : AV) : iaddrAK esz len (some (.ptr b v s j o)) (some iv) = iaAK b v s j o esz len (asNat iv) := rfl
theorem iaddrA_fptr (esz len : Nat) (cs : List AV) (iv : AV) : iaddrAK esz len (some (.fptr cs)) (some iv) = iaAF cs esz len (asNat iv) := rfl
theorem iaAK_some (b v s j o esz len n : Nat) : iaAK b v s j o esz len (some n) = if n < len then some (.ptr b v s j (o + n * esz)) else none := rfl
theorem iaAF_some (cs : List AV) (esz len n : Nat) : iaAF cs esz len (some n) = if n < len then some (.fptr (cs.drop (n * esz))) else none := rfl
theorem asNat_0 (k : IntKind) : asNat (.int k 0) = some 0 := rfl
theorem asNat_1 (k : IntKind) : asNat (.int k 1) = some 1 := rfl
theorem asNat_2 (k : IntKind) : asNat (.int k 2) = some 2 := rfl
theorem asNat_3 (k : IntKind) : asNat (.int k 3) = some 3 := rfl
/- all rules of this text as one -/
set_option linter.defProp false in
def evX := (And.intro (And.intro (And.intro @p_iaddrA (And.intro @iaddrA_ptr @iaddrA_fptr)) (And.intro (And.intro @iaAK_some @iaAF_some) (And.intro @asNat_0 @asNat_1))) (And.intro (And.intro @asNat_2 (And.intro @asNat_3 @Nat.zero_mul)) (And.intro (And.intro @Nat.one_mul @Nat.mul_one) (And.intro @apO_cons @apO_nil))))

/-! freezing -/
theorem fz_noRef0 {a : AV} (h : noRef0 a = true) (H H' : Heap) : ∀ n, fz H n a = fz H' n a ∧ ∀ r, fz H n a = some r → r.2 = []
  | 0 => ⟨rfl, fun r h => by cases h⟩
  | n + 1 => by
    cases a <;> first | (simp [noRef0] at h; done) | exact ⟨rfl, fun r h => by first | (cases h; rfl) | (simp [fz] at h)⟩
theorem fz_cells {f g : AV → Option (AV × List Nat)} : ∀ (l : List AV), (∀ a ∈ l, f a = g a ∧ ∀ r, f a = some r → r.2 = []) → fzCells f l = fzCells g l ∧ ∀ r, fzCells f l = some r → r.2 = []
  | [], _ => ⟨rfl, fun r h => by cases h; rfl⟩
  | a :: l, h => by
    obtain ⟨h1, h2⟩ := h a (List.mem_cons_self ..)
    obtain ⟨h3, h4⟩ := fz_cells l fun b hb => h b (List.mem_cons_of_mem _ hb)
    refine ⟨by simp only [fzCells, h1, h3], fun r hr => ?_⟩
    simp only [fzCells] at hr
    cases ha : f a with
    | none => simp [ha] at hr
    | some p =>
      cases hl : fzCells f l with
      | none => simp [ha, hl] at hr
      | some q =>
        simp only [ha, hl, Option.some.injEq] at hr
        subst hr
        simp [h2 p ha, h4 q hl]
theorem fz1_noRef {a : AV} (h : noRef1 a = true) (H H' : Heap) : fz1 H a = fz1 H' a ∧ ∀ r, fz1 H a = some r → r.2 = [] := by
  by_cases hag : ∃ cs, a = .agg cs
  · obtain ⟨cs, rfl⟩ := hag
    obtain ⟨h1, h2⟩ := fz_cells (f := fz H fzDepth) (g := fz H' fzDepth) cs fun a ha => fz_noRef0 (List.all_eq_true.1 h a ha) H H' fzDepth
    refine ⟨by simp only [fz1, h1], fun r hr => ?_⟩
    simp only [fz1] at hr
    cases hc : fzCells (fz H fzDepth) cs with
    | none => simp [hc] at hr
    | some q =>
      simp only [hc, Option.map_some, Option.some.injEq] at hr
      subst hr
      exact h2 q hc
  · have key : noRef1 a = noRef0 a ∧ ∀ H, fz1 H a = fz H fzDepth a := by
      cases a <;> first | exact absurd ⟨_, rfl⟩ hag | exact ⟨rfl, fun _ => rfl⟩
    rw [key.1] at h
    rw [key.2, key.2]
    exact fz_noRef0 h H H' fzDepth
theorem fzRes_noRef {a : AV} (h : noRef a = true) (H H' : Heap) : fzRes H a = fzRes H' a ∧ ∀ r, fzRes H a = some r → r.2 = [] := by
  by_cases htu : ∃ vs, a = .tup vs
  · obtain ⟨vs, rfl⟩ := htu
    obtain ⟨h1, h2⟩ := fz_cells (f := fz1 H) (g := fz1 H') vs fun a ha => fz1_noRef (List.all_eq_true.1 h a ha) H H'
    refine ⟨by simp only [fzRes, h1], fun r hr => ?_⟩
    simp only [fzRes] at hr
    cases hc : fzCells (fz1 H) vs with
    | none => simp [hc] at hr
    | some q =>
      simp only [hc, Option.map_some, Option.some.injEq] at hr
      subst hr
      exact h2 q hc
  · have key : noRef a = noRef1 a ∧ ∀ H, fzRes H a = fz1 H a := by
      cases a <;> first | exact absurd ⟨_, rfl⟩ htu | exact ⟨rfl, fun _ => rfl⟩
    rw [key.1] at h
    rw [key.2, key.2]
    exact fz1_noRef h H H'
theorem kill_keep (n : Nat) : ∀ (ids : List Nat) (H : Heap), (∀ b ∈ ids, n ≤ b) → (kill H ids).take n = H.take n
  | [], H, _ => rfl
  | b :: ids, H, h => by
    rw [kill, kill_keep n ids _ fun c hc => h c (List.mem_cons_of_mem _ hc)]
    have hb := h b (List.mem_cons_self ..)
    split
    · rw [List.take_set_of_le hb]
    · rfl
/-- a call, frozen, out of the call as it is -/
theorem cal_frz {call : Nat → List AV → Heap → Option (AV × Heap)} {g : Nat} {vs : List AV} {H H' : Heap} {r r' : AV} {ids : List Nat} (h : cal call false g vs H = some (r, H')) (hf : fzRes H' r = some (r', ids)) (hn : noRef r' = true)
    (ht : H'.take H.length = H) (hi : ∀ b ∈ ids, H.length ≤ b) : cal call true g vs H = some (r', H) := by
  unfold cal at h ⊢
  cases hc : call g vs H with
  | none => simp [hc] at h
  | some p =>
    obtain ⟨r0, H1⟩ := p
    simp only [hc, Bool.false_eq_true, if_false, Option.some.injEq, Prod.mk.injEq] at h
    obtain ⟨rfl, h⟩ := h
    simp only [if_true]
    unfold gc at h
    split at h
    · rename_i hg
      subst h
      obtain ⟨e1, e2⟩ := fzRes_noRef hg.1 H1 H
      rw [e1, hf]
      have := e2 (r', ids) (by rw [e1, hf])
      simp only at this
      subst this
      simp only [kill]
      unfold gc
      rw [if_pos ⟨hn, hg.2⟩]
    · subst h
      rw [hf]
      simp only
      unfold gc
      rw [if_pos ⟨hn, by rw [kill_keep _ _ _ hi, ht]; exact heq_refl H⟩]
theorem calK_frz {H H1 : Heap} {r r' : AV} {ids : List Nat} (hf : fzRes H1 r = some (r', ids)) (hn : noRef r' = true) (ht : H1.take H.length = H) (hi : ∀ b ∈ ids, H.length ≤ b) : calK true H (some (r, H1)) = some (r', H) := by
  unfold calK
  simp only [if_true, hf]
  unfold gc
  rw [if_pos ⟨hn, by rw [kill_keep _ _ _ hi, ht]; exact heq_refl H⟩]
theorem fz_out {n sz ty : Nat} {X : Heap} {rv : AV} {rows : List (List AV)} (h : Out n sz ty X rv rows) (H0 : Heap) (hn : n = H0.length) (hr : ∀ r ∈ rows, ∀ a ∈ r, noRef0 a = true ∧ ∀ m H, fz H (m + 1) a = some (a, [])) (m : Nat) :
    ∃ ids, fz (H0 ++ X) (m + 2) rv = some (.lst rows, ids) ∧ ∀ b ∈ ids, n ≤ b := by
  subst hn
  have hc : ∀ (r : List AV), (∀ a ∈ r, ∀ m H, fz H (m + 1) a = some (a, [])) → fzCells (fz (H0 ++ X) (m + 1)) r = some (r, [])
    | [], _ => rfl
    | a :: r, h => by
      have ih : ∀ (r : List AV), (∀ a ∈ r, ∀ m H, fz H (m + 1) a = some (a, [])) → fzCells (fz (H0 ++ X) (m + 1)) r = some (r, []) := by
        intro r
        induction r with
        | nil => intro _; rfl
        | cons a r ih => intro h; simp only [fzCells, h a (List.mem_cons_self ..), ih fun b hb => h b (List.mem_cons_of_mem _ hb), List.append_nil]
      exact ih (a :: r) h
  have hrows : ∀ (l : List (List AV)), (∀ r ∈ l, ∀ a ∈ r, ∀ m H, fz H (m + 1) a = some (a, [])) → fzRows (fz (H0 ++ X) (m + 1)) l = some (l, []) := by
    intro l
    induction l with
    | nil => intro _; rfl
    | cons r l ih => intro h; simp only [fzRows, hc r (h r (List.mem_cons_self ..)), ih fun b hb => h b (List.mem_cons_of_mem _ hb), List.append_nil]
  rcases h with ⟨rfl, rfl | rfl⟩ | ⟨h1, j, v, rfl, h3⟩
  · exact ⟨[], rfl, by simp⟩
  · exact ⟨[], rfl, by simp⟩
  · obtain ⟨k, hk⟩ : ∃ k, rows.length = k + 1 := ⟨rows.length - 1, by have := List.length_pos_iff.2 h1; omega⟩
    refine ⟨[H0.length + j], ?_, by simp⟩
    have hb : curBlk (H0 ++ X) (H0.length + j) v sz = some ⟨v, true, ty, sz, rows⟩ := by simp [curBlk, at_app, h3]
    rw [hk]
    show (match curBlk (H0 ++ X) (H0.length + j) v sz with
      | some k' => match fzRows (fz (H0 ++ X) (m + 1)) ((k'.els.drop 0).take (k + 1)) with
        | some (l, ids) => some (AV.lst l, (H0.length + j) :: ids)
        | none => none
      | none => none) = _
    simp only [hb, List.drop_zero, List.take_of_length_le (Nat.le_of_eq hk), hrows rows fun r hr' a ha => (hr r hr' a ha).2]
end Go.Proofs.Ytehcdcnghcbimaa.Ev
