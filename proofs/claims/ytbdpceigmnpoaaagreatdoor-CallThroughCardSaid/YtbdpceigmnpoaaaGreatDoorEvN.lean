/- The evaluator without a bound on rounds and depth: its equations. -/
import Derived.Test.YtbdpceigmnpoaaaGreatDoorEvM
set_option linter.unusedSimpArgs false
set_option linter.unusedVariables false
namespace Go.Proofs.YtbdpceigmnpoaaaGreatDoor.Ev

abbrev CallT := Nat → List AV → Heap → Option (AV × Heap)
abbrev ItT := (St → Option (CX × St)) → St → Option (CX × St)

section lim
variable {α : Type}
open Classical in
noncomputable def lim (f : Nat → Option α) : Option α := if h : ∃ n a, f n = some a then some (h.choose_spec.choose) else none
theorem lim_some {f : Nat → Option α} (hm : ∀ n a, f n = some a → ∀ m, n ≤ m → f m = some a) {a : α} : lim f = some a ↔ ∃ n, f n = some a := by
  unfold lim
  constructor
  · intro h
    split at h
    · rename_i hx
      cases h
      exact ⟨hx.choose, hx.choose_spec.choose_spec⟩
    · cases h
  · rintro ⟨n, hn⟩
    have hx : ∃ n a, f n = some a := ⟨n, a, hn⟩
    rw [dif_pos hx]
    have h1 := hm _ _ hx.choose_spec.choose_spec (max hx.choose n) (Nat.le_max_left _ _)
    have h2 := hm _ _ hn (max hx.choose n) (Nat.le_max_right _ _)
    rw [h1] at h2
    exact h2
end lim

def CallLe (c1 c2 : CallT) : Prop := ∀ f args H r, c1 f args H = some r → c2 f args H = some r
def BodyLe (b1 b2 : St → Option (CX × St)) : Prop := ∀ s r, b1 s = some r → b2 s = some r
def ItLe (i1 i2 : ItT) : Prop := ∀ b1 b2, BodyLe b1 b2 → BodyLe (i1 b1) (i2 b2)

theorem iter_le {b1 b2 : St → Option (CX × St)} (h : BodyLe b1 b2) : ∀ (n m : Nat), n ≤ m → ∀ s r, iter b1 n s = some r → iter b2 m s = some r
  | 0, _, _, s, r, hx => by simp [iter] at hx
  | n + 1, 0, hnm, _, _, _ => by omega
  | n + 1, m + 1, hnm, s, r, hx => by
    simp only [iter] at hx ⊢
    cases hb : b1 s with
    | none => simp [hb] at hx
    | some q =>
      obtain ⟨e, s'⟩ := q
      rw [h s _ hb]
      rw [hb] at hx
      cases e with
      | normal => exact iter_le h n m (by omega) s' r hx
      | exit id => exact hx
      | ret => exact hx

section mono
variable {c1 c2 : CallT} (h : CallLe c1 c2)
include h
theorem evOp_le {T : Env} {H : Heap} {co : CO} {r : AV × Heap} (hx : evOp c1 T H co = some r) : evOp c2 T H co = some r := by
  cases co <;> try exact hx
  all_goals
    simp only [evOp] at hx ⊢
    split at hx
    · rename_i g caps vs h1 h2
      split at hx
      · rename_i v H1 h3
        simp only [h _ _ _ _ h3]
        exact hx
      · cases hx
    · cases hx
theorem again_le {hs : List Heap} {a : COp × Env × AV} (hx : again c1 hs a = true) : again c2 hs a = true := by
  unfold again at hx ⊢
  rw [List.all_eq_true] at hx ⊢
  intro j hj
  have := hx j hj
  split at this
  · split at this
    · rename_i h2
      rw [evOp_le h h2]
      exact this
    · cases this
  · cases this
theorem evOps_le : ∀ (cs : List COp) (T : Env) (H : Heap) (r : Env × Heap), evOps c1 cs T H = some r → evOps c2 cs T H = some r
  | [], _, _, _, hx => hx
  | c :: cs, T, H, r, hx => by
    simp only [evOps] at hx ⊢
    split at hx
    · split at hx
      · rename_i h1
        rw [evOp_le h h1]
        exact evOps_le cs _ _ r hx
      · cases hx
    · exact evOps_le cs _ _ r hx
    · cases hx
theorem evOpsD_le : ∀ (cs : List COp) (T : Env) (H : Heap) (hs : List Heap) (as : List (COp × Env × AV)) (r : Env × Heap × List Heap × List (COp × Env × AV)), evOpsD c1 cs T H hs as = some r → evOpsD c2 cs T H hs as = some r
  | [], _, _, _, _, _, hx => hx
  | c :: cs, T, H, hs, as, r, hx => by
    simp only [evOpsD] at hx ⊢
    split at hx
    · split at hx
      · rename_i h1
        rw [evOp_le h h1]
        exact evOpsD_le cs _ _ _ _ r hx
      · cases hx
    · exact evOpsD_le cs _ _ _ _ r hx
    · cases hx
theorem evDraw_le {cs : List COp} {T : Env} {H : Heap} {r : Env × Heap} (hx : evDraw c1 cs T H = some r) : evDraw c2 cs T H = some r := by
  unfold evDraw at hx ⊢
  split at hx
  · rename_i h1
    rw [evOpsD_le h _ _ _ _ _ _ h1]
    split at hx
    · rename_i h2
      cases hx
      refine if_pos ?_
      rw [List.all_eq_true] at h2 ⊢
      exact fun x hx => again_le h (h2 x hx)
    · cases hx
  · cases hx
omit h in
theorem evRnd_le {b1 b2 : St → Option (CX × St)} (hb : BodyLe b1 b2) {T : Env} {i j d : Nat} {p : AV} {zs : List Int} : ∀ (l : List (Int × Nat)) (H : Heap) (r : Heap), evRnd b1 T i j d p zs l H = some r → evRnd b2 T i j d p zs l H = some r
  | [], H, r, hx => hx
  | (z, k) :: l, H, r, hx => by
    simp only [evRnd] at hx ⊢
    split at hx
    · rename_i s e
      rw [hb _ _ e]
      simp only
      split at hx
      · rename_i e2
        rw [if_pos e2]
        exact evRnd_le hb l _ _ hx
      · cases hx
    · cases hx
omit h in
theorem evRnds_le {b1 b2 : St → Option (CX × St)} (hb : BodyLe b1 b2) {g i j d : Nat} {T : Env} {H : Heap} {f : Option AV} {r : CX × St} (hx : evRnds b1 g i j d T H f = some r) : evRnds b2 g i j d T H f = some r := by
  unfold evRnds at hx ⊢
  split at hx
  · split at hx
    · rename_i e1
      rw [if_pos e1]
      split at hx
      · rename_i zs e2
        cases e : evRnd b1 T i j d _ zs zs.zipIdx.reverse H with
        | none => rw [e] at hx; cases hx
        | some q => rw [e] at hx; rw [evRnd_le hb _ _ _ e]; exact hx
      · cases hx
    · cases hx
  · cases hx
theorem evCode_le {i1 i2 : ItT} (hi : ItLe i1 i2) : ∀ (c : CC), BodyLe (evCode c1 i1 c) (evCode c2 i2 c) := by
  intro c
  induction c with
  | skip => exact fun s r hx => hx
  | region m cs =>
    intro s r hx
    simp only [evCode] at hx ⊢
    cases he : evOps c1 cs (keepEnv s.1 m) s.2 with
    | none => simp [he] at hx
    | some q => rw [he] at hx; rw [evOps_le h _ _ _ _ he]; exact hx
  | draw m cs =>
    intro s r hx
    simp only [evCode] at hx ⊢
    cases he : evDraw c1 cs (keepEnv s.1 m) s.2 with
    | none => simp [he] at hx
    | some q => rw [he] at hx; rw [evDraw_le h he]; exact hx
  | seq a b iha ihb =>
    intro s r hx
    simp only [evCode] at hx ⊢
    cases he : evCode c1 i1 a s with
    | none => simp [he] at hx
    | some q =>
      obtain ⟨e, s'⟩ := q
      rw [he] at hx
      rw [iha _ _ he]
      cases e with
      | normal => exact ihb _ _ hx
      | exit id => exact hx
      | ret => exact hx
  | cond c a b iha ihb =>
    intro s r hx
    simp only [evCode] at hx ⊢
    split at hx
    · exact iha _ _ hx
    · exact ihb _ _ hx
    · cases hx
  | block id a iha =>
    intro s r hx
    simp only [evCode] at hx ⊢
    cases he : evCode c1 i1 a s with
    | none => simp [he] at hx
    | some q => rw [he] at hx; rw [iha _ _ he]; exact hx
  | loop a iha => exact hi _ _ iha
  | exit id => exact fun s r hx => hx
  | ret => exact fun s r hx => hx
  | scope a iha => exact iha
  | rfb g t i j d a iha =>
    intro s r hx
    simp only [evCode] at hx ⊢
    exact evRnds_le iha hx
  | user p => exact fun s r hx => hx
  | stuck => exact fun s r hx => hx
theorem evBody_le {i1 i2 : ItT} (hi : ItLe i1 i2) {c : CFn} {args : List AV} {H : Heap} {r : AV × Heap} (hx : evBody c1 i1 c args H = some r) : evBody c2 i2 c args H = some r := by
  unfold evBody at hx ⊢
  cases he : evCode c1 i1 c.body (argEnv 0 args, H) with
  | none => simp [he] at hx
  | some q => rw [he] at hx; rw [evCode_le h hi _ _ _ he]; exact hx
theorem evFn_le {i1 i2 : ItT} (hi : ItLe i1 i2) {c : CFn} {args : List AV} {H : Heap} {r : AV × Heap} (hx : evFn c1 i1 c args H = some r) : evFn c2 i2 c args H = some r := by
  unfold evFn at hx ⊢
  by_cases hc : c.closed = true
  · rw [if_pos hc] at hx ⊢
    split at hx
    · split at hx
      · rename_i e1
        simp only [evBody_le h hi e1]
        exact hx
      · cases hx
    · cases hx
  rw [if_neg hc] at hx ⊢
  by_cases hs : c.split = true
  · rw [if_pos hs] at hx ⊢
    split at hx
    · split at hx
      · rename_i e1 e2
        simp only [evBody_le h hi e1, evBody_le h hi e2]
        exact hx
      · cases hx
    · exact evBody_le h hi hx
  · rw [if_neg hs] at hx ⊢
    exact evBody_le h hi hx
end mono

variable (prog : Nat → Option CFn)
theorem evCall_mono : ∀ (n m : Nat), n ≤ m → CallLe (evCall prog n) (evCall prog m)
  | 0, _, _ => fun f args H r hx => by simp [evCall] at hx
  | n + 1, 0, h => by omega
  | n + 1, m + 1, h => fun f args H r hx => by
    simp only [evCall] at hx ⊢
    split at hx
    · exact evFn_le (evCall_mono n m (by omega)) (fun b1 b2 hb s r hr => iter_le hb n m (by omega) s r hr) hx
    · cases hx

noncomputable def itLim : ItT := fun body s => lim fun n => iter body n s
noncomputable def evC : CallT := fun f args H => lim fun k => evCall prog k f args H
variable {prog}
theorem itLim_some {body : St → Option (CX × St)} {s : St} {r : CX × St} : itLim body s = some r ↔ ∃ n, iter body n s = some r :=
  lim_some fun n a hn m hm => iter_le (fun _ _ h => h) n m hm s a hn
theorem evC_some {f : Nat} {args : List AV} {H : Heap} {r : AV × Heap} : evC prog f args H = some r ↔ ∃ k, evCall prog k f args H = some r :=
  lim_some fun n a hn m hm => evCall_mono prog n m hm f args H a hn
theorem evC_of {k f : Nat} {args : List AV} {H : Heap} {r : AV × Heap} (h : evCall prog k f args H = some r) : evC prog f args H = some r := evC_some.2 ⟨k, h⟩

theorem itLim_eq (body : St → Option (CX × St)) (s : St) : itLim body s = match body s with
    | some (.normal, s') => itLim body s'
    | r => r := by
  have key : ∀ (o : Option (CX × St)), body s = o → itLim body s = match o with
      | some (.normal, s') => itLim body s'
      | r => r := by
    intro o ho
    apply Option.ext
    intro r
    rw [itLim_some]
    constructor
    · rintro ⟨n, hn⟩
      cases n with
      | zero => simp [iter] at hn
      | succ n =>
        simp only [iter, ho] at hn
        cases o with
        | none => exact hn
        | some q =>
          obtain ⟨e, s'⟩ := q
          cases e with
          | normal => exact itLim_some.2 ⟨n, hn⟩
          | exit id => exact hn
          | ret => exact hn
    · intro h
      cases o with
      | none => cases h
      | some q =>
        obtain ⟨e, s'⟩ := q
        cases e with
        | normal =>
          obtain ⟨n, hn⟩ := itLim_some.1 h
          exact ⟨n + 1, by simp only [iter, ho]; exact hn⟩
        | exit id => exact ⟨1, by simp only [iter, ho]; exact h⟩
        | ret => exact ⟨1, by simp only [iter, ho]; exact h⟩
  exact key _ rfl

theorem callLe_lim (k : Nat) : CallLe (evCall prog k) (evC prog) := fun _ _ _ _ h => evC_of h
theorem itLe_lim (k : Nat) : ItLe (fun b => iter b k) itLim := fun b1 b2 hb s r h => itLim_some.2 ⟨k, iter_le hb k k (Nat.le_refl _) s r h⟩

/-- what the limit answers a bound answers already -/
theorem evOp_cont {T : Env} {H : Heap} {co : CO} {r : AV × Heap} (hx : evOp (evC prog) T H co = some r) : ∃ k, evOp (evCall prog k) T H co = some r := by
  cases co <;> try exact ⟨0, hx⟩
  all_goals
    simp only [evOp] at hx
    split at hx
    · rename_i g caps vs h1 h2
      split at hx
      · rename_i v H1 h3
        obtain ⟨k, hk⟩ := evC_some.1 h3
        refine ⟨k, ?_⟩
        simp only [evOp, h1, h2, hk]
        exact hx
      · cases hx
    · cases hx
theorem againJ_cont {hs : List Heap} {T : Env} {o : CO} {v : AV} : ∀ (js : List Nat), (js.all fun j => match hs[j]? with
    | some H => match evOp (evC prog) T H o with
      | some (v', _) => AV.beq v' v
      | none => false
    | none => false) = true → ∃ k, (js.all fun j => match hs[j]? with
    | some H => match evOp (evCall prog k) T H o with
      | some (v', _) => AV.beq v' v
      | none => false
    | none => false) = true
  | [], _ => ⟨0, rfl⟩
  | j :: js, h => by
    rw [List.all_cons, Bool.and_eq_true] at h
    obtain ⟨k1, hk1⟩ := againJ_cont js h.2
    have h1 := h.1
    cases hj : hs[j]? with
    | none => simp [hj] at h1
    | some H =>
      simp only [hj] at h1
      cases ho : evOp (evC prog) T H o with
      | none => simp [ho] at h1
      | some p =>
        obtain ⟨v', H'⟩ := p
        simp only [ho] at h1
        obtain ⟨k2, hk2⟩ := evOp_cont ho
        refine ⟨max k1 k2, ?_⟩
        rw [List.all_cons, Bool.and_eq_true]
        refine ⟨by simp only [hj, evOp_le (evCall_mono prog k2 (max k1 k2) (Nat.le_max_right _ _)) hk2, h1], ?_⟩
        exact again_le (evCall_mono prog k1 (max k1 k2) (Nat.le_max_left _ _)) (a := (⟨none, o, none, [], js⟩, T, v)) hk1
theorem again_cont {hs : List Heap} : ∀ (as : List (COp × Env × AV)), as.all (again (evC prog) hs) = true → ∃ k, as.all (again (evCall prog k) hs) = true
  | [], _ => ⟨0, rfl⟩
  | a :: as, h => by
    rw [List.all_cons, Bool.and_eq_true] at h
    obtain ⟨k1, hk1⟩ := again_cont as h.2
    obtain ⟨k2, hk2⟩ := againJ_cont a.1.alts h.1
    refine ⟨max k1 k2, ?_⟩
    rw [List.all_cons, Bool.and_eq_true]
    refine ⟨again_le (evCall_mono prog k2 (max k1 k2) (Nat.le_max_right _ _)) hk2, ?_⟩
    rw [List.all_eq_true] at hk1 ⊢
    exact fun x hx => again_le (evCall_mono prog k1 (max k1 k2) (Nat.le_max_left _ _)) (hk1 x hx)
theorem evOps_cont : ∀ (cs : List COp) (T : Env) (H : Heap) (r : Env × Heap), evOps (evC prog) cs T H = some r → ∃ k, evOps (evCall prog k) cs T H = some r
  | [], _, _, _, hx => ⟨0, hx⟩
  | c :: cs, T, H, r, hx => by
    simp only [evOps] at hx
    split at hx
    · rename_i hg
      split at hx
      · rename_i h1
        obtain ⟨k1, hk1⟩ := evOp_cont h1
        obtain ⟨k2, hk2⟩ := evOps_cont cs _ _ r hx
        refine ⟨max k1 k2, ?_⟩
        simp only [evOps, hg, evOp_le (evCall_mono prog k1 (max k1 k2) (Nat.le_max_left _ _)) hk1]
        exact evOps_le (evCall_mono prog k2 (max k1 k2) (Nat.le_max_right _ _)) _ _ _ _ hk2
      · cases hx
    · rename_i hg
      obtain ⟨k2, hk2⟩ := evOps_cont cs _ _ r hx
      exact ⟨k2, by simp only [evOps, hg]; exact hk2⟩
    · cases hx
theorem evOpsD_cont : ∀ (cs : List COp) (T : Env) (H : Heap) (hs : List Heap) (as : List (COp × Env × AV)) (r : Env × Heap × List Heap × List (COp × Env × AV)), evOpsD (evC prog) cs T H hs as = some r → ∃ k, evOpsD (evCall prog k) cs T H hs as = some r
  | [], _, _, _, _, _, hx => ⟨0, hx⟩
  | c :: cs, T, H, hs, as, r, hx => by
    simp only [evOpsD] at hx
    split at hx
    · rename_i hg
      split at hx
      · rename_i h1
        obtain ⟨k1, hk1⟩ := evOp_cont h1
        obtain ⟨k2, hk2⟩ := evOpsD_cont cs _ _ _ _ r hx
        refine ⟨max k1 k2, ?_⟩
        simp only [evOpsD, hg, evOp_le (evCall_mono prog k1 (max k1 k2) (Nat.le_max_left _ _)) hk1]
        exact evOpsD_le (evCall_mono prog k2 (max k1 k2) (Nat.le_max_right _ _)) _ _ _ _ _ _ hk2
      · cases hx
    · rename_i hg
      obtain ⟨k2, hk2⟩ := evOpsD_cont cs _ _ _ _ r hx
      exact ⟨k2, by simp only [evOpsD, hg]; exact hk2⟩
    · cases hx
theorem evDraw_cont {cs : List COp} {T : Env} {H : Heap} {r : Env × Heap} (hx : evDraw (evC prog) cs T H = some r) : ∃ k, evDraw (evCall prog k) cs T H = some r := by
  unfold evDraw at hx
  split at hx
  · rename_i h1
    obtain ⟨k, hk⟩ := evOpsD_cont _ _ _ _ _ _ h1
    split at hx
    · rename_i h2
      cases hx
      obtain ⟨k2, hk2⟩ := again_cont _ h2
      refine ⟨max k k2, ?_⟩
      unfold evDraw
      rw [evOpsD_le (evCall_mono prog k (max k k2) (Nat.le_max_left _ _)) _ _ _ _ _ _ hk]
      refine if_pos ?_
      rw [List.all_eq_true] at hk2 ⊢
      exact fun x hx => again_le (evCall_mono prog k2 (max k k2) (Nat.le_max_right _ _)) (hk2 x hx)
    · cases hx
  · cases hx
abbrev codeN (prog : Nat → Option CFn) (k : Nat) (c : CC) : St → Option (CX × St) := evCode (evCall prog k) (fun b => iter b k) c
theorem codeN_mono (c : CC) {n m : Nat} (h : n ≤ m) : BodyLe (codeN prog n c) (codeN prog m c) :=
  evCode_le (evCall_mono prog n m h) (fun _ _ hb s r hr => iter_le hb n m h s r hr) c
theorem evRnd_cont {a : CC} (iha : ∀ (s : St) (r : CX × St), evCode (evC prog) itLim a s = some r → ∃ k, codeN prog k a s = some r) {T : Env} {i j d : Nat} {p : AV} {zs : List Int} :
    ∀ (l : List (Int × Nat)) (H : Heap) (r : Heap), evRnd (evCode (evC prog) itLim a) T i j d p zs l H = some r → ∃ k, evRnd (codeN prog k a) T i j d p zs l H = some r
  | [], H, r, hx => ⟨0, hx⟩
  | (z, n) :: l, H, r, hx => by
    simp only [evRnd] at hx
    split at hx
    · rename_i s e
      split at hx
      · rename_i e2
        obtain ⟨k1, hk1⟩ := iha _ _ e
        obtain ⟨k2, hk2⟩ := evRnd_cont iha l _ _ hx
        refine ⟨max k1 k2, ?_⟩
        simp only [evRnd]
        rw [codeN_mono a (Nat.le_max_left k1 k2) _ _ hk1]
        simp only [if_pos e2]
        exact evRnd_le (codeN_mono a (Nat.le_max_right k1 k2)) _ _ _ hk2
      · cases hx
    · cases hx
theorem evCode_cont : ∀ (c : CC) (s : St) (r : CX × St), evCode (evC prog) itLim c s = some r → ∃ k, codeN prog k c s = some r := by
  intro c
  induction c with
  | skip => exact fun s r hx => ⟨0, hx⟩
  | region m cs =>
    intro s r hx
    simp only [evCode] at hx
    cases he : evOps (evC prog) cs (keepEnv s.1 m) s.2 with
    | none => simp [he] at hx
    | some q =>
      obtain ⟨k, hk⟩ := evOps_cont _ _ _ _ he
      exact ⟨k, by simp only [codeN, evCode, hk]; rw [he] at hx; exact hx⟩
  | draw m cs =>
    intro s r hx
    simp only [evCode] at hx
    cases he : evDraw (evC prog) cs (keepEnv s.1 m) s.2 with
    | none => simp [he] at hx
    | some q =>
      obtain ⟨k, hk⟩ := evDraw_cont he
      exact ⟨k, by simp only [codeN, evCode, hk]; rw [he] at hx; exact hx⟩
  | seq a b iha ihb =>
    intro s r hx
    simp only [evCode] at hx
    cases he : evCode (evC prog) itLim a s with
    | none => simp [he] at hx
    | some q =>
      obtain ⟨e, s'⟩ := q
      obtain ⟨k1, hk1⟩ := iha _ _ he
      rw [he] at hx
      cases e with
      | normal =>
        obtain ⟨k2, hk2⟩ := ihb _ _ hx
        refine ⟨max k1 k2, ?_⟩
        have e1 := codeN_mono a (Nat.le_max_left k1 k2) _ _ hk1
        have e2 := codeN_mono b (Nat.le_max_right k1 k2) _ _ hk2
        simp only [codeN, evCode] at e1 e2 ⊢
        rw [e1]
        exact e2
      | exit id => exact ⟨k1, by simp only [codeN, evCode] at hk1 ⊢; rw [hk1]; exact hx⟩
      | ret => exact ⟨k1, by simp only [codeN, evCode] at hk1 ⊢; rw [hk1]; exact hx⟩
  | cond c a b iha ihb =>
    intro s r hx
    simp only [evCode] at hx
    split at hx
    · rename_i h1
      obtain ⟨k, hk⟩ := iha _ _ hx
      exact ⟨k, by simp only [codeN, evCode, h1] at hk ⊢; exact hk⟩
    · rename_i h1
      obtain ⟨k, hk⟩ := ihb _ _ hx
      exact ⟨k, by simp only [codeN, evCode, h1] at hk ⊢; exact hk⟩
    · cases hx
  | block id a iha =>
    intro s r hx
    simp only [evCode] at hx
    cases he : evCode (evC prog) itLim a s with
    | none => simp [he] at hx
    | some q =>
      obtain ⟨k, hk⟩ := iha _ _ he
      refine ⟨k, ?_⟩
      simp only [codeN, evCode] at hk ⊢
      rw [hk]
      rw [he] at hx
      exact hx
  | loop a iha =>
    intro s r hx
    simp only [evCode] at hx
    obtain ⟨n, hn⟩ := itLim_some.1 hx
    have key : ∀ (n : Nat) (s : St), iter (evCode (evC prog) itLim a) n s = some r → ∃ k, iter (codeN prog k a) n s = some r := by
      intro n
      induction n with
      | zero => intro s h; simp [iter] at h
      | succ n ih =>
        intro s h
        simp only [iter] at h
        cases he : evCode (evC prog) itLim a s with
        | none => simp [he] at h
        | some q =>
          obtain ⟨e, s'⟩ := q
          obtain ⟨k1, hk1⟩ := iha _ _ he
          rw [he] at h
          cases e with
          | normal =>
            obtain ⟨k2, hk2⟩ := ih _ h
            refine ⟨max k1 k2, ?_⟩
            simp only [iter]
            rw [codeN_mono a (Nat.le_max_left k1 k2) _ _ hk1]
            exact iter_le (codeN_mono a (Nat.le_max_right k1 k2)) n n (Nat.le_refl _) _ _ hk2
          | exit id => exact ⟨k1, by simp only [iter]; rw [hk1]; exact h⟩
          | ret => exact ⟨k1, by simp only [iter]; rw [hk1]; exact h⟩
    obtain ⟨k, hk⟩ := key n s hn
    refine ⟨max n k, ?_⟩
    show iter (codeN prog (max n k) a) (max n k) s = some r
    exact iter_le (codeN_mono a (Nat.le_max_right n k)) n _ (Nat.le_max_left n k) _ _ hk
  | exit id => exact fun s r hx => ⟨0, hx⟩
  | ret => exact fun s r hx => ⟨0, hx⟩
  | scope a iha => exact iha
  | rfb g t i j d a iha =>
    intro s r hx
    simp only [evCode, evRnds] at hx
    split at hx
    · rename_i h1
      split at hx
      · rename_i e1
        split at hx
        · rename_i zs e2
          cases e : evRnd (evCode (evC prog) itLim a) s.1 i j d _ zs zs.zipIdx.reverse s.2 with
          | none => rw [e] at hx; cases hx
          | some q =>
            rw [e] at hx
            obtain ⟨k, hk⟩ := evRnd_cont iha _ _ _ e
            exact ⟨k, by simp only [codeN, evCode, evRnds, h1, if_pos e1, e2]; rw [hk]; exact hx⟩
        · cases hx
      · cases hx
    · cases hx
  | user p => exact fun s r hx => ⟨0, hx⟩
  | stuck => exact fun s r hx => ⟨0, hx⟩
theorem evBody_cont {c : CFn} {args : List AV} {H : Heap} {r : AV × Heap} (hx : evBody (evC prog) itLim c args H = some r) : ∃ k, evBody (evCall prog k) (fun b => iter b k) c args H = some r := by
  unfold evBody at hx
  cases he : evCode (evC prog) itLim c.body (argEnv 0 args, H) with
  | none => simp [he] at hx
  | some q =>
    obtain ⟨k, hk⟩ := evCode_cont _ _ _ he
    refine ⟨k, ?_⟩
    unfold evBody
    simp only [codeN] at hk
    rw [hk]
    rw [he] at hx
    exact hx
theorem evFn_cont {c : CFn} {args : List AV} {H : Heap} {r : AV × Heap} (hx : evFn (evC prog) itLim c args H = some r) : ∃ k, evFn (evCall prog k) (fun b => iter b k) c args H = some r := by
  unfold evFn at hx
  by_cases hc : c.closed = true
  · rw [if_pos hc] at hx
    split at hx
    · split at hx
      · rename_i e1
        obtain ⟨k1, hk1⟩ := evBody_cont e1
        refine ⟨k1, ?_⟩
        unfold evFn
        rw [if_pos hc]
        simp only [hk1]
        exact hx
      · cases hx
    · cases hx
  rw [if_neg hc] at hx
  split at hx
  · rename_i hs
    split at hx
    · rename_i hrest
      split at hx
      · rename_i e1 e2
        obtain ⟨k1, hk1⟩ := evBody_cont e1
        obtain ⟨k2, hk2⟩ := evBody_cont e2
        refine ⟨max k1 k2, ?_⟩
        unfold evFn
        rw [if_neg hc, if_pos hs]
        have l1 := evBody_le (evCall_mono prog k1 (max k1 k2) (Nat.le_max_left _ _)) (i2 := fun b => iter b (max k1 k2)) (fun _ _ hb s r hr => iter_le hb k1 _ (Nat.le_max_left _ _) s r hr) hk1
        have l2 := evBody_le (evCall_mono prog k2 (max k1 k2) (Nat.le_max_right _ _)) (i2 := fun b => iter b (max k1 k2)) (fun _ _ hb s r hr => iter_le hb k2 _ (Nat.le_max_right _ _) s r hr) hk2
        rw [hrest]
        simp only [l1, l2]
        exact hx
      · cases hx
    · rename_i hne
      obtain ⟨k, hk⟩ := evBody_cont hx
      refine ⟨k, ?_⟩
      unfold evFn
      rw [if_neg hc, if_pos hs, hne]
      exact hk
  · rename_i hs
    obtain ⟨k, hk⟩ := evBody_cont hx
    exact ⟨k, by unfold evFn; rw [if_neg hc, if_neg hs]; exact hk⟩
theorem evC_eq (f : Nat) (args : List AV) (H : Heap) : evC prog f args H = match prog f with
    | some c => evFn (evC prog) itLim c args H
    | none => none := by
  apply Option.ext
  intro r
  show evC prog f args H = some r ↔ _ = some r
  rw [evC_some]
  constructor
  · rintro ⟨k, hk⟩
    cases k with
    | zero => simp [evCall] at hk
    | succ k =>
      simp only [evCall] at hk
      split at hk
      · rename_i c hc
        rw [hc]
        exact evFn_le (callLe_lim k) (itLe_lim k) hk
      · cases hk
  · intro h
    split at h
    · rename_i c hc
      obtain ⟨k, hk⟩ := evFn_cont h
      exact ⟨k + 1, by simp only [evCall, hc]; exact hk⟩
    · cases h
theorem evC_fn {f : Nat} {c : CFn} (hc : prog f = some c) (args : List AV) (H : Heap) : evC prog f args H = evFn (evC prog) itLim c args H := by
  rw [evC_eq, hc]
theorem evC_sound {P : Program} (hmix : P.follows .mixedOrders = true) (hprog : ∀ f c, prog f = some c → okFn P f c = true ∨ Held P f c) : CallOk P (evC prog) := by
  intro g args H r H' h
  obtain ⟨k, hk⟩ := evC_some.1 h
  exact evCall_sound hmix hprog k g args H r H' hk
end Go.Proofs.YtbdpceigmnpoaaaGreatDoor.Ev
