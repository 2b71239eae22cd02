/- plain: forests in hierarchical order (mathematics): ways and their types. -/
import Derived.Test.YtcbmakanokmdjaaRm
set_option linter.unusedSimpArgs false
set_option linter.unusedVariables false
namespace Go.Proofs.Ytcbmakanokmdjaa.Code
open Go.Proofs.Ytcbmakanokmdjaa.Ev

def keyOf (t : Ty) (d : ByteArray) : ByteArray := if t.key < 0 then ⟨#[]⟩ else match t.fields[t.key.toNat]? with
  | some f => d.extract f.at'.toNat (f.at' + f.bytes).toNat
  | none => ⟨#[]⟩
def inOrd (t : Ty) (a b : ByteArray) : Bool := decide (t.key < 0) || bLt (keyOf t a) (keyOf t b) || (decide (keyOf t a = keyOf t b) && !t.unique)
def dat (f : List Item) (k : Int) : ByteArray := match f[k.toNat]? with
  | some x => x.data
  | none => ⟨#[]⟩
def tyOf (ts : List Ty) (t : Int) : Ty := match ts[t.toNat]? with
  | some y => y
  | none => pk (-1)
/-- whether an item may stand behind another child of its parent -/
def ordOk (ts : List Ty) (f : List Item) (k : Int) (x : Item) : Bool := decide (typ f k < x.type) || (decide (typ f k = x.type) && inOrd (tyOf ts x.type) (dat f k) x.data)
def nOf (ts : List Ty) (f : List Item) (i : Nat) : Nat := (pthI ts f (par ts f i)).length
def sibOk (ts : List Ty) (f : List Item) (i : Nat) (x : Item) : Bool := match (way ts f i)[nOf ts f i]? with
  | some k => ordOk ts f k x
  | none => true
noncomputable def okAt (ts : List Ty) (f : List Item) (i : Nat) (x : Item) : Bool :=
  fits ts x && (decide (tpar ts x.type < 0) || tell (par ts f i ∈ way ts f i)) && sibOk ts f i x
noncomputable def forestOk (ts : List Ty) (f : List Item) : Bool := decide ((f.length : Int) ≤ 200) && tell (∀ (i : Nat) (x : Item), f[i]? = some x → okAt ts f i x = true)
/-- the items ahead of one are right -/
def FOk (ts : List Ty) (f : List Item) (n : Nat) : Prop := ∀ (j : Nat) (x : Item), j < n → f[j]? = some x → okAt ts f j x = true
theorem typ_at {f : List Item} {i : Nat} {x : Item} (h : f[i]? = some x) : typ f (i : Int) = x.type := by simp [typ, h]
theorem dat_at {f : List Item} {i : Nat} {x : Item} (h : f[i]? = some x) : dat f (i : Int) = x.data := by simp [dat, h]
theorem tyOf_at {ts : List Ty} {i : Nat} {t : Ty} (h : ts[i]? = some t) : tyOf ts (i : Int) = t := by simp [tyOf, h]
theorem tpar_at {ts : List Ty} {i : Nat} {t : Ty} (h : ts[i]? = some t) : tpar ts (i : Int) = t.parent := by simp [tpar, h]
theorem fits_some {ts : List Ty} {x : Item} (h : fits ts x = true) : ∃ (k : Nat) (t : Ty), x.type = (k : Int) ∧ k < ts.length ∧ ts[k]? = some t ∧ t.min ≤ x.data.size ∧ (x.data.size : Int) ≤ t.size := by
  unfold fits at h
  split at h
  · rename_i t ht
    simp only [Bool.and_eq_true, decide_eq_true_eq] at h
    exact ⟨x.type.toNat, t, by omega, (List.getElem?_eq_some_iff.1 ht).1, ht, h.1.2, h.2⟩
  · cases h
theorem tys_good {ts : List Ty} (h : tysOk ts = true) : Good ts ts.length := good_of fun j t _ ht => tell_true.1 h j t ht
theorem tys_root {ts : List Ty} (h : tysOk ts = true) {k : Nat} {t : Ty} (ht : ts[k]? = some t) : t.parent < 0 ↔ k = 0 := by
  have hk := tell_true.1 h k t ht
  constructor
  · intro hp
    by_cases h0 : k = 0
    · exact h0
    · obtain ⟨p, h1, _, _⟩ := parent_of hk h0; omega
  · rintro rfl
    have := parent_root hk; omega
theorem ok_fits {ts : List Ty} {f : List Item} {i : Nat} {x : Item} (h : okAt ts f i x = true) : fits ts x = true := by
  simp only [okAt, Bool.and_eq_true] at h; exact h.1.1
/-- the parent of an item, if it has one, is on the way -/
theorem ok_par {ts : List Ty} {f : List Item} {i : Nat} {x : Item} (hx : f[i]? = some x) (h : okAt ts f i x = true) (hp : 0 ≤ par ts f i) : par ts f i ∈ way ts f i := by
  simp only [okAt, Bool.and_eq_true, Bool.or_eq_true, decide_eq_true_eq, tell_true] at h
  rcases h.1.2 with h1 | h1
  · have := (par_typ hp).2
    rw [typ_at hx] at this; omega
  · exact h1
/-- types rise on a way -/
theorem typ_rise {ts : List Ty} (ht : tysOk ts = true) {f : List Item} {n : Nat} (hn : n ≤ f.length) (hf : FOk ts f n) : ∀ (m k : Nat), k ≤ m → k < n → ∀ a ∈ pth ts f k, a ≠ (k : Int) → typ f a < typ f (k : Int) := by
  intro m
  induction m with
  | zero =>
    intro k hk hkn a ha hne
    have := pth_bound ha; omega
  | succ m ih =>
    intro k hk hkn a ha hne
    rw [pth_eq ts f (by omega)] at ha
    obtain ⟨x, hx⟩ : ∃ x, f[k]? = some x := ⟨_, List.getElem?_eq_getElem (by omega)⟩
    obtain ⟨c, t, h1, h2, h3, _⟩ := fits_some (ok_fits (hf k x hkn hx))
    rcases List.mem_append.1 ha with ha | ha
    · have hb := par_lt ts f k
      by_cases hp : par ts f k < 0
      · simp only [pthI, ancI_neg _ hp] at ha; cases ha
      · have hpt := par_typ (ts := ts) (f := f) (i := k) (by omega)
        rw [typ_at hx, h1, tpar_at h3] at hpt
        have hg := tys_good ht c t h2 h3
        obtain ⟨p, hpp⟩ : ∃ p : Nat, par ts f k = (p : Int) := ⟨(par ts f k).toNat, by omega⟩
        rw [hpp] at ha hpt
        simp only [pthI, ancI_nat] at ha
        rw [typ_at hx, h1]
        by_cases hap : a = (p : Int)
        · rw [hap, hpt.1]; omega
        · have := ih p (by omega) (by omega) a ha hap
          rw [hpt.1] at this; omega
    · simp at ha; exact absurd ha hne
/-- what is on the way of an item is on the ways of all between them -/
theorem way_between {ts : List Ty} {f : List Item} {n : Nat} (hn : n ≤ f.length) (hf : FOk ts f n) : ∀ (j : Nat), j < n → ∀ a ∈ pth ts f j, ∀ j' : Nat, a ≤ (j' : Int) → j' ≤ j → a ∈ pth ts f j' := by
  intro j
  induction j with
  | zero =>
    intro hj a ha j' _ h2
    have e : j' = 0 := by omega
    subst e; exact ha
  | succ j ih =>
    intro hj a ha j' h1 h2
    by_cases e : j' = j + 1
    · subst e; exact ha
    · obtain ⟨x, hx⟩ : ∃ x, f[j + 1]? = some x := ⟨_, List.getElem?_eq_getElem (by omega)⟩
      refine ih (by omega) a ?_ j' h1 (by omega)
      rw [pth_eq ts f (by omega)] at ha
      rcases List.mem_append.1 ha with ha | ha
      · by_cases hp : par ts f (j + 1) < 0
        · simp only [pthI, ancI_neg _ hp] at ha; cases ha
        · have hm := ok_par hx (hf (j + 1) x hj hx) (by omega)
          have hb := par_lt ts f (j + 1)
          obtain ⟨p, hpp⟩ : ∃ p : Nat, par ts f (j + 1) = (p : Int) := ⟨(par ts f (j + 1)).toNat, by omega⟩
          rw [hpp] at ha hm
          simp only [pthI, ancI_nat] at ha
          exact anc_trans (pts ts f) hm ha
      · simp at ha; omega
/-- an item on the way is the last one of its type -/
theorem last_on_way {ts : List Ty} (ht : tysOk ts = true) {f : List Item} {n : Nat} (hn : n ≤ f.length) (hf : FOk ts f n) {j : Nat} (hj : j < n) {a : Nat} (ha : (a : Int) ∈ pth ts f j) : lastTo f (typ f (a : Int)) (j + 1) = (a : Int) := by
  have hb := pth_bound ha
  refine lastTo_is rfl (j + 1) (by omega) fun j' h1 h2 h => ?_
  have := typ_rise ht hn hf j' j' (Nat.le_refl _) (by omega) (a : Int) (way_between hn hf j hj _ ha j' (by omega) (by omega)) (by omega)
  omega
/-- so a parent is on the way if and only if an item of its type is -/
theorem par_way {ts : List Ty} (ht : tysOk ts = true) {f : List Item} {i : Nat} (hi : i < f.length) (hf : FOk ts f i) {x : Item} (hx : f[i]? = some x) (hp : 0 ≤ tpar ts x.type) (j : Nat) (a : Int) (ha : (way ts f i)[j]? = some a) (hta : typ f a = tpar ts x.type) :
    par ts f i = a ∧ (way ts f i).take (j + 1) = pthI ts f a ∧ nOf ts f i = j + 1 := by
  obtain ⟨i, rfl⟩ : ∃ i', i = i' + 1 := ⟨i - 1, by
    cases i with
    | zero => simp [way, wayTo] at ha
    | succ i => omega⟩
  change (pth ts f i)[j]? = some a at ha
  have hm : a ∈ pth ts f i := List.mem_of_getElem? ha
  have hb := pth_bound hm
  obtain ⟨a, rfl⟩ : ∃ a' : Nat, a = (a' : Int) := ⟨a.toNat, by omega⟩
  have hl := last_on_way ht (by omega) hf (j := i) (by omega) hm
  have hpar : par ts f (i + 1) = (a : Int) := by
    unfold par
    rw [typ_at hx, if_neg (by omega), ← hta, hl]
  have htake : (pth ts f i).take (j + 1) = pth ts f a := take_anc (pts ts f) (good_pts ts f) (by rw [pts_len]; omega) i i (Nat.le_refl _) (by omega) j _ ha
  refine ⟨hpar, by rw [pthI, ancI_nat]; exact htake, ?_⟩
  unfold nOf
  rw [hpar, pthI, ancI_nat]
  change (pth ts f a).length = _
  rw [← htake, List.length_take]
  have := (List.getElem?_eq_some_iff.1 ha).1
  omega
end Go.Proofs.Ytcbmakanokmdjaa.Code
