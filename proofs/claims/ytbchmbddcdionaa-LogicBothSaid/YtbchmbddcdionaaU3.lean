/- Texts of ours, joined into one file; each begins with its own remark. -/
import Derived.Test.YtbchmbddcdionaaU2
/- logic: a table of numbers that is counted up; LogicBoth's loops. -/
set_option linter.unusedSimpArgs false
set_option linter.unusedVariables false
namespace Go.Proofs.Ytbchmbddcdionaa.Code
open Go.Proofs.Ytbchmbddcdionaa.Ev

def tab (n : Nat) (φ : Nat → Int) : List Int := (List.range n).map φ
theorem tab_len (n : Nat) (φ : Nat → Int) : (tab n φ).length = n := by simp [tab]
theorem tab_at {n k : Nat} (φ : Nat → Int) (hk : k < n) : (tab n φ)[k]? = some (φ k) := by simp [tab, hk]
theorem tab_set {n : Nat} (φ : Nat → Int) (k : Nat) (v : Int) : (tab n φ).set k v = tab n (fun j => if j = k then v else φ j) := by
  apply List.ext_getElem?
  intro j
  by_cases hj : j < n
  · rw [tab_at _ hj, List.getElem?_set, tab_len]
    by_cases hk : k = j
    · subst hk; simp [hj]
    · rw [if_neg hk, if_neg (by omega), tab_at _ hj]
  · rw [List.getElem?_eq_none (by rw [List.length_set, tab_len]; omega), List.getElem?_eq_none (by rw [tab_len]; omega)]
def bump (φ : Nat → Int) (l : List Int) (j : Nat) : Int := φ j + if (j : Int) ∈ l then 1 else 0
def svN (n : Nat) : AV := match n with
  | 0 => .nil0
  | n + 1 => .ref 1 0 1 0 (n + 1)
def bTab (n : Nat) (φ : Nat → Int) : Blk := ⟨0, true, 3, 1, (tab n φ).map rI⟩
def sH (x : Pr) (n : Nat) (φ : Nat → Int) : Heap := bTwo x :: (if n = 0 then [] else [bTab n φ])
theorem sv_at {n k : Nat} (hk : k < n) : iaddrK 1 (some (svN n)) (some (.int .i64 (k : Int))) = some (.ptr 1 0 1 k 0) := by
  cases n with
  | zero => omega
  | succ n =>
    simp only [svN, iaddr_ref, asNat_cast, refK_some]
    rw [if_pos (by simpa using hk), Nat.zero_add]
theorem sH_two (x : Pr) (n : Nat) (φ : Nat → Int) : (sH x n φ)[0]? = some (bTwo x) := rfl
theorem sH_tab (x : Pr) {n : Nat} (h : 0 < n) (φ : Nat → Int) : (sH x n φ)[1]? = some (bTab n φ) := by simp [sH, show n ≠ 0 by omega]
theorem sH_set (x : Pr) {n : Nat} (h : 0 < n) (φ : Nat → Int) (k : Nat) (v : Int) : (sH x n φ).set 1 ⟨0, true, 3, 1, ((tab n φ).map rI).set k [.int .i64 v]⟩ = sH x n (fun j => if j = k then v else φ j) := by
  have : ((tab n φ).map rI).set k [.int .i64 v] = (tab n (fun j => if j = k then v else φ j)).map rI := by rw [← tab_set, List.map_set]; rfl
  rw [this]
  simp [sH, show n ≠ 0 by omega, bTab]
theorem sH_congr (x : Pr) (n : Nat) {φ ψ : Nat → Int} (h : ∀ j, j < n → φ j = ψ j) : sH x n φ = sH x n ψ := by
  have : tab n φ = tab n ψ := List.map_congr_left fun j hj => h j (by simpa using hj)
  simp only [sH, bTab, this]
theorem bump_take {φ : Nat → Int} {l : List Int} {p k : Nat} (hk : l[p]? = some (k : Int)) (hn : (k : Int) ∉ l.take p) : (fun j => if j = k then bump φ (l.take p) k + 1 else bump φ (l.take p) j) = bump φ (l.take (p + 1)) := by
  funext j
  have ht : l.take (p + 1) = l.take p ++ [(k : Int)] := by rw [List.take_add_one, hk, Option.toList_some]
  unfold bump
  rw [ht]
  by_cases hj : j = k
  · subst hj; simp [hn]
  · have : ¬ (j : Int) = (k : Int) := by omega
    simp [hj, this]
/-- numbers that rise occur once -/
theorem gath_rise {α : Type} (P : α → Bool) : ∀ (l : List α) (k : Nat), (gath (fun i y => if P y = true then [(i : Int)] else []) k l).Pairwise (· < ·) ∧ ∀ a ∈ gath (fun i y => if P y = true then [(i : Int)] else []) k l, (k : Int) ≤ a
  | [], k => by simp [gath]
  | y :: l, k => by
    obtain ⟨h1, h2⟩ := gath_rise P l (k + 1)
    rw [gath]
    constructor
    · rw [List.pairwise_append]
      refine ⟨by split <;> simp, h1, fun a ha b hb => ?_⟩
      have := h2 b hb
      split at ha
      · simp at ha; omega
      · simp at ha
    · intro a ha
      rcases List.mem_append.1 ha with ha | ha
      · split at ha
        · simp at ha; omega
        · simp at ha
      · have := h2 a ha; omega
theorem rise_once {l : List Int} (h : l.Pairwise (· < ·)) {p : Nat} {a : Int} (ha : l[p]? = some a) : a ∉ l.take p := by
  intro hm
  obtain ⟨q, hq⟩ := List.getElem?_of_mem hm
  have hql := (List.getElem?_eq_some_iff.1 hq).1
  rw [List.length_take] at hql
  rw [List.getElem?_take, if_pos (by omega)] at hq
  obtain ⟨h1, h2⟩ := List.getElem?_eq_some_iff.1 ha
  obtain ⟨h3, h4⟩ := List.getElem?_eq_some_iff.1 hq
  have := List.pairwise_iff_getElem.1 h q p h3 h1 (by omega)
  rw [h2, h4] at this; omega
theorem mem_kids {x : Pr} {key : ByteArray} {a : Int} : a ∈ kids x key ↔ ∃ (j : Nat) (y : Item), a = (j : Int) ∧ x.f[j]? = some y ∧ isKid x key y = true := by
  unfold kids
  rw [mem_gath]
  constructor
  · rintro ⟨j, y, hy, h⟩
    split at h
    · rename_i hk
      simp at h
      exact ⟨j, y, by omega, hy, hk⟩
    · cases h
  · rintro ⟨j, y, rfl, hy, hk⟩
    exact ⟨j, y, hy, by rw [if_pos hk]; simp⟩
theorem mem_lost {x : Pr} {a : Int} : a ∈ lostL x ↔ ∃ (j : Nat) (y : Item), a = (j : Int) ∧ x.f[j]? = some y ∧ isLost x y = true := by
  unfold lostL
  rw [mem_gath]
  constructor
  · rintro ⟨j, y, hy, h⟩
    split at h
    · rename_i hk
      simp at h
      exact ⟨j, y, by omega, hy, hk⟩
    · cases h
  · rintro ⟨j, y, rfl, hy, hk⟩
    exact ⟨j, y, hy, by rw [if_pos hk]; simp⟩
def upAt (x : Pr) (j : Nat) : Int := upI x (dat x.f (j : Int))
def cnt (x : Pr) (i : Nat) (j : Nat) : Int := if isCh x (j : Int) = true ∧ 0 ≤ upAt x j ∧ upAt x j < (i : Int) then 1 else 0
theorem cnt_le (x : Pr) (i j : Nat) : 0 ≤ cnt x i j ∧ cnt x i j ≤ 1 := by unfold cnt; split <;> omega
theorem up_range {x : Pr} (d : ByteArray) : upI x d = -1 ∨ ∃ (m : Nat) (u : Item), upI x d = (m : Int) ∧ x.g[m]? = some u ∧ u.type = 0 := by
  rcases idxOf_cases (isRoot x.b (kOf x d)) x.g with ⟨h1, _⟩ | ⟨m, z, h1, h2, h3⟩
  · exact .inl h1
  · simp only [isRoot, Bool.and_eq_true, decide_eq_true_eq] at h3
    exact .inr ⟨m, z, h1, h2, h3.1⟩
theorem cnt_root {x : Pr} (h : x.Ok) {i : Nat} {u : Item} (hu : x.g[i]? = some u) (ht : u.type = 0) : bump (cnt x i) (kids x (keyOf (rootTy x.b) u.data)) = cnt x (i + 1) := by
  funext j
  unfold bump cnt
  have hm : (j : Int) ∈ kids x (keyOf (rootTy x.b) u.data) ↔ isCh x (j : Int) = true ∧ upAt x j = (i : Int) := by
    rw [mem_kids]
    constructor
    · rintro ⟨k, y, e, hy, hk⟩
      have : k = j := by omega
      subst this
      simp only [isKid, Bool.and_eq_true, decide_eq_true_eq] at hk
      refine ⟨by rw [isCh_at hy, decide_eq_true hk.1], ?_⟩
      unfold upAt; rw [dat_at hy]
      exact (up_iff h hu ht y.data).2 hk.2
    · rintro ⟨hc, hup⟩
      obtain ⟨k, y, e, hy, hk⟩ := isCh_is hc
      have : k = j := by omega
      subst this
      refine ⟨k, y, rfl, hy, ?_⟩
      unfold upAt at hup; rw [dat_at hy] at hup
      simp [isKid, hk, (up_iff h hu ht y.data).1 hup]
  by_cases hmem : (j : Int) ∈ kids x (keyOf (rootTy x.b) u.data)
  · obtain ⟨h1, h2⟩ := hm.1 hmem
    rw [if_pos hmem, if_neg (by omega), if_pos ⟨h1, by omega, by omega⟩]; rfl
  · rw [if_neg hmem, Int.add_zero]
    have : ¬ (isCh x (j : Int) = true ∧ upAt x j = (i : Int)) := fun e => hmem (hm.2 e)
    by_cases hc : isCh x (j : Int) = true
    · have h3 : upAt x j ≠ (i : Int) := fun e => this ⟨hc, e⟩
      by_cases h4 : 0 ≤ upAt x j ∧ upAt x j < (i : Int)
      · rw [if_pos ⟨hc, h4.1, h4.2⟩, if_pos ⟨hc, h4.1, by omega⟩]
      · rw [if_neg (by intro e; exact h4 e.2), if_neg (by intro e; exact h4 ⟨e.2.1, by omega⟩)]
    · rw [if_neg (by intro e; exact hc e.1), if_neg (by intro e; exact hc e.1)]
theorem cnt_skip {x : Pr} {i : Nat} {u : Item} (hu : x.g[i]? = some u) (ht : u.type ≠ 0) : cnt x i = cnt x (i + 1) := by
  funext j
  unfold cnt
  have : upAt x j ≠ (i : Int) := by
    intro e
    unfold upAt at e
    rcases up_range (x := x) (dat x.f (j : Int)) with h | ⟨m, v, h1, h2, h3⟩
    · omega
    · have : m = i := by omega
      subst this
      rw [hu] at h2; cases h2; exact ht h3
  by_cases hc : isCh x (j : Int) = true ∧ 0 ≤ upAt x j ∧ upAt x j < (i : Int)
  · rw [if_pos hc, if_pos ⟨hc.1, hc.2.1, by omega⟩]
  · rw [if_neg hc, if_neg (by intro e; exact hc ⟨e.1, e.2.1, by omega⟩)]
theorem cnt_zero (x : Pr) : cnt x 0 = fun _ => 0 := by
  funext j
  unfold cnt
  rw [if_neg (by omega)]
theorem cnt_all (x : Pr) : bump (cnt x x.g.length) (lostL x) = fun (j : Nat) => if isCh x (j : Int) = true then 1 else 0 := by
  funext j
  unfold bump cnt
  have hm : (j : Int) ∈ lostL x ↔ isCh x (j : Int) = true ∧ upAt x j < 0 := by
    rw [mem_lost]
    constructor
    · rintro ⟨k, y, e, hy, hk⟩
      have : k = j := by omega
      subst this
      simp only [isLost, Bool.and_eq_true, decide_eq_true_eq] at hk
      refine ⟨by rw [isCh_at hy, decide_eq_true hk.1], ?_⟩
      unfold upAt; rw [dat_at hy]; exact hk.2
    · rintro ⟨hc, hup⟩
      obtain ⟨k, y, e, hy, hk⟩ := isCh_is hc
      have : k = j := by omega
      subst this
      unfold upAt at hup; rw [dat_at hy] at hup
      exact ⟨k, y, rfl, hy, by simp [isLost, hk, hup]⟩
  have hr : upAt x j < (x.g.length : Int) := by
    unfold upAt
    rcases up_range (x := x) (dat x.f (j : Int)) with h | ⟨m, v, h1, h2, h3⟩
    · omega
    · have := (List.getElem?_eq_some_iff.1 h2).1; omega
  by_cases hc : isCh x (j : Int) = true
  · by_cases hn : upAt x j < 0
    · rw [if_neg (by omega), if_pos (hm.2 ⟨hc, hn⟩), if_pos hc]; rfl
    · rw [if_pos ⟨hc, by omega, hr⟩, if_neg (fun e => hn (hm.1 e).2), if_pos hc]; rfl
  · rw [if_neg (fun e => hc e.1), if_neg (fun e => hc (hm.1 e).1), if_neg hc]; rfl
end Go.Proofs.Ytbchmbddcdionaa.Code

/- The law LogicBoth is true. -/
set_option linter.unusedSimpArgs false
set_option linter.unusedVariables false
namespace Go.Proofs.Ytbchmbddcdionaa.Code
open Go.Proofs.Ytbchmbddcdionaa.Ev

theorem wrapB {a : Int} (h0 : 0 ≤ a) (h1 : a ≤ 1000) : IntKind.i64.wrap (a + 1) = a + 1 := by rw [IntKind.wrap_i64]; omega
theorem bump_le {φ : Nat → Int} (h : ∀ j, 0 ≤ φ j ∧ φ j ≤ 1) (l : List Int) (j : Nat) : 0 ≤ bump φ l j ∧ bump φ l j ≤ 2 := by
  have := h j
  unfold bump; split <;> omega
theorem kids_rise (x : Pr) (key : ByteArray) : (kids x key).Pairwise (· < ·) := (gath_rise (isKid x key) x.f 0).1
theorem lost_rise (x : Pr) : (lostL x).Pairwise (· < ·) := (gath_rise (isLost x) x.f 0).1
theorem l5_0 (x : Pr) (hr : x.Raw) (h : x.Ok) (h0 : askE x = 0) (i : Nat) (u : Item) (hu : x.g[i]? = some u) (ht : u.type = 0) (φ : Nat → Int) (hφ : ∀ j, 0 ≤ φ j ∧ φ j ≤ 1) (st : St)
    (hE : keepEnv st.1 [1, 3, 4, 5, 7] = [(1, .ptr 0 0 13 0 0), (3, svN x.f.length), (4, .int .i64 (i : Int)), (5, eIs (kids x (keyOf (rootTy x.b) u.data))), (7, .int .i64 0)]) (hH : st.2 = sH x x.f.length φ)
    (z : Option (CX × St)) (hz : itLim (evCode (evC cprog) itLim c5_l0) st = z) :
    ∃ T, z = some (.exit 2, T, sH x x.f.length (bump φ (kids x (keyOf (rootTy x.b) u.data)))) ∧ keepEnv T [1, 3, 4] = [(1, .ptr 0 0 13 0 0), (3, svN x.f.length), (4, .int .i64 (i : Int))] := by
  obtain ⟨hl, hf⟩ := forest_fits h.f
  have hlen := (sIs [] (kids x (keyOf (rootTy x.b) u.data))).len
  have hlf := (sItems [] x.f).len
  simp only [List.length_map] at hlen hlf
  have hkl := kids_len x (keyOf (rootTy x.b) u.data)
  have L := loop_rule (σ := Nat) (m := [1, 3, 4, 5, 7]) (env := fun p => [(1, .ptr 0 0 13 0 0), (3, svN x.f.length), (4, .int .i64 (i : Int)), (5, eIs (kids x (keyOf (rootTy x.b) u.data))), (7, .int .i64 (p : Int))]) (hp := fun p => sH x x.f.length (bump φ ((kids x (keyOf (rootTy x.b) u.data)).take p)))
    (P := fun _ r => ∃ T, r = (.exit 2, T, sH x x.f.length (bump φ (kids x (keyOf (rootTy x.b) u.data)))) ∧ keepEnv T [1, 3, 4] = [(1, .ptr 0 0 13 0 0), (3, svN x.f.length), (4, .int .i64 (i : Int))])
    (mu := fun p => (kids x (keyOf (rootTy x.b) u.data)).length - p) (I := fun p => p ≤ (kids x (keyOf (rootTy x.b) u.data)).length) (evCode (evC cprog) itLim c5_l0) ?_ 0 st (Nat.zero_le _) hE (by rw [hH]; exact sH_congr _ _ fun j _ => by simp [bump]) z hz
  · obtain ⟨_, rfl, T, rfl, h⟩ := L
    exact ⟨T, rfl, h⟩
  · intro p hp E hE
    by_cases hlt : p < (kids x (keyOf (rootTy x.b) u.data)).length
    · obtain ⟨a, ha⟩ : ∃ a, (kids x (keyOf (rootTy x.b) u.data))[p]? = some a := ⟨_, List.getElem?_eq_getElem hlt⟩
      obtain ⟨k, y, rfl, hy, hk⟩ := mem_kids.1 (List.mem_of_getElem? ha)
      have hnot := rise_once (kids_rise x (keyOf (rootTy x.b) u.data)) ha
      have hkn := (List.getElem?_eq_some_iff.1 hy).1
      simp only [isKid, Bool.and_eq_true, decide_eq_true_eq] at hk
      have hup := (up_iff h hu ht y.data).2 hk.2
      have hpi : (p : Int) < ((kids x (keyOf (rootTy x.b) u.data)).length : Int) := by omega
      have haI := aI ha
      have k0 : ¬ (k : Int) < 0 := by omega
      have k1 : ¬ (x.f.length : Int) ≤ (k : Int) := by omega
      have hw := wrapS hlt (by omega)
      have s0 := sH_two x x.f.length
      have s1 := sH_tab x (n := x.f.length) (by omega) (bump φ ((kids x (keyOf (rootTy x.b) u.data)).take p))
      have s2 := sH_set x (n := x.f.length) (by omega) (bump φ ((kids x (keyOf (rootTy x.b) u.data)).take p)) k (bump φ ((kids x (keyOf (rootTy x.b) u.data)).take p) k + 1)
      have s3 := sv_at (n := x.f.length) (k := k) (by omega)
      have s4 : ((tab x.f.length (bump φ ((kids x (keyOf (rootTy x.b) u.data)).take p))).map rI)[k]? = some [.int .i64 (bump φ ((kids x (keyOf (rootTy x.b) u.data)).take p) k)] := by
        rw [List.getElem?_map, tab_at _ hkn]; rfl
      rw [bump_take ha hnot] at s2
      have hb := bump_le hφ ((kids x (keyOf (rootTy x.b) u.data)).take p) k
      have hwb := wrapB hb.1 (by omega)
      have h20 : ∀ H, cal (evC cprog) false 20 [eBase x.a, eBase x.b, eLink x.l, eItems x.f, eItems x.g, .int .i64 (k : Int)] H = some (.tup [.int .i64 (i : Int), .int .i64 0], H) := by
        intro H
        have hE0 : parE x (k : Int) = 0 := by
          unfold parE
          rw [if_pos h0, isCh_at hy, decide_eq_true hk.1, if_pos rfl, dat_at hy, hup, if_neg (by omega)]
        rw [f20 x hr (k : Int) H]
        unfold parR
        rw [if_pos hE0, hE0, dat_at hy, hup]
      simp only [bTwo, bTab] at s0 s1
      simp only [eBase, eLink] at h20
      simp only [c5_l0, hE, hpi, hlen, hlf, haI, rI, k0, k1, s0, s1, s2, s3, s4, hwb, h20, hw, evX, Int.reduceEq, Int.reduceLT, Int.reduceLE, Nat.reduceMul, Nat.reduceMod, evW, fn_eq, evR, Nat.reduceAdd, Nat.reduceLT, Nat.reduceLeDiff, reduceIte, Nat.reduceEqDiff, reduceCtorEq, argEnv, eq_self, if_true, if_false]
      repeat' ((first | rw [guardK_cases] | rw [condK_bool] | rw [guardD_cases]); split <;> simp only [c5_l0, hE, hpi, hlen, hlf, haI, rI, k0, k1, s0, s1, s2, s3, s4, hwb, h20, hw, evX, Int.reduceEq, Int.reduceLT, Int.reduceLE, Nat.reduceMul, Nat.reduceMod, evW, evR, Nat.reduceAdd, Nat.reduceLT, Nat.reduceLeDiff, reduceIte, Nat.reduceEqDiff, reduceCtorEq, argEnv, eq_self, if_true, if_false, *])
      exact q_next (p + 1) (by rfl) rfl (by omega) (by omega) fun r h => h
    · have hpi : ¬ (p : Int) < ((kids x (keyOf (rootTy x.b) u.data)).length : Int) := by omega
      simp only [c5_l0, hE, hpi, hlen, evX, Int.reduceEq, Int.reduceLT, Int.reduceLE, Nat.reduceMul, Nat.reduceMod, evW, fn_eq, evR, Nat.reduceAdd, Nat.reduceLT, Nat.reduceLeDiff, reduceIte, Nat.reduceEqDiff, reduceCtorEq, argEnv, eq_self, if_true, if_false]
      repeat' ((first | rw [guardK_cases] | rw [condK_bool] | rw [guardD_cases]); split <;> simp only [c5_l0, hE, hpi, hlen, evX, Int.reduceEq, Int.reduceLT, Int.reduceLE, Nat.reduceMul, Nat.reduceMod, evW, evR, Nat.reduceAdd, Nat.reduceLT, Nat.reduceLeDiff, reduceIte, Nat.reduceEqDiff, reduceCtorEq, argEnv, eq_self, if_true, if_false, *])
      rw [List.take_of_length_le (by omega)]
      exact q_exit ⟨_, rfl, by rfl⟩
theorem l5_1 (x : Pr) (hr : x.Raw) (h : x.Ok) (h0 : askE x = 0) (st : St) (hE : keepEnv st.1 [1, 3, 4] = [(1, .ptr 0 0 13 0 0), (3, svN x.f.length), (4, .int .i64 0)]) (hH : st.2 = sH x x.f.length (cnt x 0))
    (z : Option (CX × St)) (hz : itLim (evCode (evC cprog) itLim c5_l1) st = z) :
    ∃ T, z = some (.exit 0, T, sH x x.f.length (cnt x x.g.length)) ∧ keepEnv T [1, 3] = [(1, .ptr 0 0 13 0 0), (3, svN x.f.length)] := by
  obtain ⟨hl, hf⟩ := forest_fits h.g
  have hlg := (sItems [] x.g).len
  simp only [List.length_map] at hlg
  have L := loop_rule (σ := Nat) (m := [1, 3, 4]) (env := fun i => [(1, .ptr 0 0 13 0 0), (3, svN x.f.length), (4, .int .i64 (i : Int))]) (hp := fun i => sH x x.f.length (cnt x i))
    (P := fun _ r => ∃ T, r = (.exit 0, T, sH x x.f.length (cnt x x.g.length)) ∧ keepEnv T [1, 3] = [(1, .ptr 0 0 13 0 0), (3, svN x.f.length)])
    (mu := fun i => x.g.length - i) (I := fun i => i ≤ x.g.length) (evCode (evC cprog) itLim c5_l1) ?_ 0 st (Nat.zero_le _) hE hH z hz
  · obtain ⟨_, rfl, T, rfl, h⟩ := L
    exact ⟨T, rfl, h⟩
  · intro i hi E hE
    have s0 := sH_two x x.f.length
    simp only [bTwo] at s0
    by_cases hlt : i < x.g.length
    · obtain ⟨u, hu⟩ : ∃ u, x.g[i]? = some u := ⟨_, List.getElem?_eq_getElem hlt⟩
      have hii : (i : Int) < (x.g.length : Int) := by omega
      have hw := wrapS hlt (by omega)
      have ha := aItem hu
      by_cases ht : u.type = 0
      · have hrt : isRt x (i : Int) = true := by
          simp only [isRt, typ_at hu, ht, Bool.and_eq_true, decide_eq_true_eq, and_true]; omega
        have hre : rootE x (i : Int) = 0 := by unfold rootE; rw [if_pos h0, if_pos hrt]
        have h19 := f19 x hr (i : Int)
        rw [show kidsR x (i : Int) = kids x (keyOf (rootTy x.b) u.data) by unfold kidsR; rw [if_pos hre, dat_at hu], hre] at h19
        simp only [eBase, eLink, eIE] at h19
        simp only [c5_l1, hE, hii, hlg, s0, ha, rItem, ht, h19, evX, Int.reduceEq, Int.reduceLT, Int.reduceLE, Nat.reduceMul, Nat.reduceMod, evW, fn_eq, evR, Nat.reduceAdd, Nat.reduceLT, Nat.reduceLeDiff, reduceIte, Nat.reduceEqDiff, reduceCtorEq, argEnv, eq_self, if_true, if_false]
        repeat' ((first | rw [guardK_cases] | rw [condK_bool] | rw [guardD_cases]); split <;> simp only [c5_l1, hE, hii, hlg, s0, ha, rItem, ht, h19, evX, Int.reduceEq, Int.reduceLT, Int.reduceLE, Nat.reduceMul, Nat.reduceMod, evW, evR, Nat.reduceAdd, Nat.reduceLT, Nat.reduceLeDiff, reduceIte, Nat.reduceEqDiff, reduceCtorEq, argEnv, eq_self, if_true, if_false, *])
        generalize hz : itLim _ _ = z
        obtain ⟨T, rfl, hT⟩ := l5_0 x hr h h0 i u hu ht (cnt x i) (cnt_le x i) _ (by rfl) rfl z hz
        simp only [hT, hw, evX, Int.reduceEq, Int.reduceLT, Int.reduceLE, Nat.reduceMul, Nat.reduceMod, evW, fn_eq, evR, Nat.reduceAdd, Nat.reduceLT, Nat.reduceLeDiff, reduceIte, Nat.reduceEqDiff, reduceCtorEq, argEnv, eq_self, if_true, if_false]
        repeat' ((first | rw [guardK_cases] | rw [condK_bool] | rw [guardD_cases]); split <;> simp only [hT, hw, evX, Int.reduceEq, Int.reduceLT, Int.reduceLE, Nat.reduceMul, Nat.reduceMod, evW, evR, Nat.reduceAdd, Nat.reduceLT, Nat.reduceLeDiff, reduceIte, Nat.reduceEqDiff, reduceCtorEq, argEnv, eq_self, if_true, if_false, *])
        rw [cnt_root h hu ht]
        exact q_next (i + 1) (by rfl) rfl (by omega) (by omega) fun r h => h
      · simp only [c5_l1, hE, hii, hlg, s0, ha, rItem, ht, hw, evX, Int.reduceEq, Int.reduceLT, Int.reduceLE, Nat.reduceMul, Nat.reduceMod, evW, fn_eq, evR, Nat.reduceAdd, Nat.reduceLT, Nat.reduceLeDiff, reduceIte, Nat.reduceEqDiff, reduceCtorEq, argEnv, eq_self, if_true, if_false]
        repeat' ((first | rw [guardK_cases] | rw [condK_bool] | rw [guardD_cases]); split <;> simp only [c5_l1, hE, hii, hlg, s0, ha, rItem, ht, hw, evX, Int.reduceEq, Int.reduceLT, Int.reduceLE, Nat.reduceMul, Nat.reduceMod, evW, evR, Nat.reduceAdd, Nat.reduceLT, Nat.reduceLeDiff, reduceIte, Nat.reduceEqDiff, reduceCtorEq, argEnv, eq_self, if_true, if_false, *])
        rw [cnt_skip hu ht]
        exact q_next (i + 1) (by rfl) rfl (by omega) (by omega) fun r h => h
    · have hii : ¬ (i : Int) < (x.g.length : Int) := by omega
      have : i = x.g.length := by omega
      subst this
      simp only [c5_l1, hE, hii, hlg, s0, evX, Int.reduceEq, Int.reduceLT, Int.reduceLE, Nat.reduceMul, Nat.reduceMod, evW, fn_eq, evR, Nat.reduceAdd, Nat.reduceLT, Nat.reduceLeDiff, reduceIte, Nat.reduceEqDiff, reduceCtorEq, argEnv, eq_self, if_true, if_false]
      repeat' ((first | rw [guardK_cases] | rw [condK_bool] | rw [guardD_cases]); split <;> simp only [c5_l1, hE, hii, hlg, s0, evX, Int.reduceEq, Int.reduceLT, Int.reduceLE, Nat.reduceMul, Nat.reduceMod, evW, evR, Nat.reduceAdd, Nat.reduceLT, Nat.reduceLeDiff, reduceIte, Nat.reduceEqDiff, reduceCtorEq, argEnv, eq_self, if_true, if_false, *])
      exact q_exit ⟨_, rfl, by rfl⟩
theorem l5_2 (x : Pr) (h : x.Ok) (φ : Nat → Int) (hφ : ∀ j, 0 ≤ φ j ∧ φ j ≤ 1) (st : St) (hE : keepEnv st.1 [1, 3, 10, 12] = [(1, .ptr 0 0 13 0 0), (3, svN x.f.length), (10, eIs (lostL x)), (12, .int .i64 0)]) (hH : st.2 = sH x x.f.length φ)
    (z : Option (CX × St)) (hz : itLim (evCode (evC cprog) itLim c5_l2) st = z) :
    ∃ T, z = some (.exit 4, T, sH x x.f.length (bump φ (lostL x))) ∧ keepEnv T [1, 3] = [(1, .ptr 0 0 13 0 0), (3, svN x.f.length)] := by
  obtain ⟨hl, hf⟩ := forest_fits h.f
  have hlen := (sIs [] (lostL x)).len
  have hlf := (sItems [] x.f).len
  simp only [List.length_map] at hlen hlf
  have hkl := lost_len x
  have L := loop_rule (σ := Nat) (m := [1, 3, 10, 12]) (env := fun p => [(1, .ptr 0 0 13 0 0), (3, svN x.f.length), (10, eIs (lostL x)), (12, .int .i64 (p : Int))]) (hp := fun p => sH x x.f.length (bump φ ((lostL x).take p)))
    (P := fun _ r => ∃ T, r = (.exit 4, T, sH x x.f.length (bump φ (lostL x))) ∧ keepEnv T [1, 3] = [(1, .ptr 0 0 13 0 0), (3, svN x.f.length)])
    (mu := fun p => (lostL x).length - p) (I := fun p => p ≤ (lostL x).length) (evCode (evC cprog) itLim c5_l2) ?_ 0 st (Nat.zero_le _) hE (by rw [hH]; exact sH_congr _ _ fun j _ => by simp [bump]) z hz
  · obtain ⟨_, rfl, T, rfl, h⟩ := L
    exact ⟨T, rfl, h⟩
  · intro p hp E hE
    by_cases hlt : p < (lostL x).length
    · obtain ⟨a, ha⟩ : ∃ a, (lostL x)[p]? = some a := ⟨_, List.getElem?_eq_getElem hlt⟩
      obtain ⟨k, y, rfl, hy, hk⟩ := mem_lost.1 (List.mem_of_getElem? ha)
      have hnot := rise_once (lost_rise x) ha
      have hkn := (List.getElem?_eq_some_iff.1 hy).1
      have hpi : (p : Int) < ((lostL x).length : Int) := by omega
      have haI := aI ha
      have k0 : ¬ (k : Int) < 0 := by omega
      have k1 : ¬ (x.f.length : Int) ≤ (k : Int) := by omega
      have hw := wrapS hlt (by omega)
      have s0 := sH_two x x.f.length
      have s1 := sH_tab x (n := x.f.length) (by omega) (bump φ ((lostL x).take p))
      have s2 := sH_set x (n := x.f.length) (by omega) (bump φ ((lostL x).take p)) k (bump φ ((lostL x).take p) k + 1)
      have s3 := sv_at (n := x.f.length) (k := k) (by omega)
      have s4 : ((tab x.f.length (bump φ ((lostL x).take p))).map rI)[k]? = some [.int .i64 (bump φ ((lostL x).take p) k)] := by
        rw [List.getElem?_map, tab_at _ hkn]; rfl
      rw [bump_take ha hnot] at s2
      have hb := bump_le hφ ((lostL x).take p) k
      have hwb := wrapB hb.1 (by omega)
      simp only [bTwo, bTab] at s0 s1
      simp only [c5_l2, hE, hpi, hlen, hlf, haI, rI, k0, k1, s0, s1, s2, s3, s4, hwb, hw, evX, Int.reduceEq, Int.reduceLT, Int.reduceLE, Nat.reduceMul, Nat.reduceMod, evW, fn_eq, evR, Nat.reduceAdd, Nat.reduceLT, Nat.reduceLeDiff, reduceIte, Nat.reduceEqDiff, reduceCtorEq, argEnv, eq_self, if_true, if_false]
      repeat' ((first | rw [guardK_cases] | rw [condK_bool] | rw [guardD_cases]); split <;> simp only [c5_l2, hE, hpi, hlen, hlf, haI, rI, k0, k1, s0, s1, s2, s3, s4, hwb, hw, evX, Int.reduceEq, Int.reduceLT, Int.reduceLE, Nat.reduceMul, Nat.reduceMod, evW, evR, Nat.reduceAdd, Nat.reduceLT, Nat.reduceLeDiff, reduceIte, Nat.reduceEqDiff, reduceCtorEq, argEnv, eq_self, if_true, if_false, *])
      exact q_next (p + 1) (by rfl) rfl (by omega) (by omega) fun r h => h
    · have hpi : ¬ (p : Int) < ((lostL x).length : Int) := by omega
      simp only [c5_l2, hE, hpi, hlen, evX, Int.reduceEq, Int.reduceLT, Int.reduceLE, Nat.reduceMul, Nat.reduceMod, evW, fn_eq, evR, Nat.reduceAdd, Nat.reduceLT, Nat.reduceLeDiff, reduceIte, Nat.reduceEqDiff, reduceCtorEq, argEnv, eq_self, if_true, if_false]
      repeat' ((first | rw [guardK_cases] | rw [condK_bool] | rw [guardD_cases]); split <;> simp only [c5_l2, hE, hpi, hlen, evX, Int.reduceEq, Int.reduceLT, Int.reduceLE, Nat.reduceMul, Nat.reduceMod, evW, evR, Nat.reduceAdd, Nat.reduceLT, Nat.reduceLeDiff, reduceIte, Nat.reduceEqDiff, reduceCtorEq, argEnv, eq_self, if_true, if_false, *])
      rw [List.take_of_length_le (by omega)]
      exact q_exit ⟨_, rfl, by rfl⟩
theorem l5_3 (x : Pr) (h : x.Ok) (st : St) (hE : keepEnv st.1 [1, 3, 13] = [(1, .ptr 0 0 13 0 0), (3, svN x.f.length), (13, .int .i64 0)]) (hH : st.2 = sH x x.f.length (fun (j : Nat) => if isCh x (j : Int) = true then 1 else 0))
    (z : Option (CX × St)) (hz : itLim (evCode (evC cprog) itLim c5_l3) st = z) :
    ∃ T, z = some (.exit 6, T, sH x x.f.length (fun (j : Nat) => if isCh x (j : Int) = true then 1 else 0)) := by
  obtain ⟨hl, hf⟩ := forest_fits h.f
  have hlf := (sItems [] x.f).len
  simp only [List.length_map] at hlf
  have s0 := sH_two x x.f.length
  simp only [bTwo] at s0
  have L := loop_rule (σ := Nat) (m := [1, 3, 13]) (env := fun i => [(1, .ptr 0 0 13 0 0), (3, svN x.f.length), (13, .int .i64 (i : Int))]) (hp := fun _ => sH x x.f.length (fun (j : Nat) => if isCh x (j : Int) = true then 1 else 0))
    (P := fun _ r => ∃ T, r = (.exit 6, T, sH x x.f.length (fun (j : Nat) => if isCh x (j : Int) = true then 1 else 0)))
    (mu := fun i => x.f.length - i) (I := fun i => i ≤ x.f.length) (evCode (evC cprog) itLim c5_l3) ?_ 0 st (Nat.zero_le _) hE hH z hz
  · obtain ⟨_, rfl, T, rfl⟩ := L
    exact ⟨T, rfl⟩
  · intro i hi E hE
    by_cases hlt : i < x.f.length
    · obtain ⟨y, hy⟩ : ∃ y, x.f[i]? = some y := ⟨_, List.getElem?_eq_getElem hlt⟩
      have hii : (i : Int) < (x.f.length : Int) := by omega
      have hw := wrapS hlt (by omega)
      have ha := aItem hy
      have s1 := sH_tab x (n := x.f.length) (by omega) (fun (j : Nat) => if isCh x (j : Int) = true then 1 else 0)
      have s3 := sv_at (n := x.f.length) (k := i) (by omega)
      have s4 : ((tab x.f.length (fun (j : Nat) => if isCh x (j : Int) = true then 1 else 0)).map rI)[i]? = some [.int .i64 (if isCh x (i : Int) = true then 1 else 0)] := by
        rw [List.getElem?_map, tab_at _ hlt]; rfl
      rw [isCh_at hy] at s4
      simp only [bTab] at s1
      by_cases hc : y.type = x.l.child
      · rw [decide_eq_true hc, if_pos rfl] at s4
        simp only [c5_l3, hE, hii, hlf, ha, rItem, hc, s0, s1, s3, s4, hw, evX, Int.reduceEq, Int.reduceLT, Int.reduceLE, Nat.reduceMul, Nat.reduceMod, evW, fn_eq, evR, Nat.reduceAdd, Nat.reduceLT, Nat.reduceLeDiff, reduceIte, Nat.reduceEqDiff, reduceCtorEq, argEnv, eq_self, if_true, if_false]
        repeat' ((first | rw [guardK_cases] | rw [condK_bool] | rw [guardD_cases]); split <;> simp only [c5_l3, hE, hii, hlf, ha, rItem, hc, s0, s1, s3, s4, hw, evX, Int.reduceEq, Int.reduceLT, Int.reduceLE, Nat.reduceMul, Nat.reduceMod, evW, evR, Nat.reduceAdd, Nat.reduceLT, Nat.reduceLeDiff, reduceIte, Nat.reduceEqDiff, reduceCtorEq, argEnv, eq_self, if_true, if_false, *])
        exact q_next (i + 1) (by rfl) rfl (by omega) (by omega) fun r h => h
      · rw [decide_eq_false hc, if_neg (by simp)] at s4
        simp only [c5_l3, hE, hii, hlf, ha, rItem, hc, s0, s1, s3, s4, hw, evX, Int.reduceEq, Int.reduceLT, Int.reduceLE, Nat.reduceMul, Nat.reduceMod, evW, fn_eq, evR, Nat.reduceAdd, Nat.reduceLT, Nat.reduceLeDiff, reduceIte, Nat.reduceEqDiff, reduceCtorEq, argEnv, eq_self, if_true, if_false]
        repeat' ((first | rw [guardK_cases] | rw [condK_bool] | rw [guardD_cases]); split <;> simp only [c5_l3, hE, hii, hlf, ha, rItem, hc, s0, s1, s3, s4, hw, evX, Int.reduceEq, Int.reduceLT, Int.reduceLE, Nat.reduceMul, Nat.reduceMod, evW, evR, Nat.reduceAdd, Nat.reduceLT, Nat.reduceLeDiff, reduceIte, Nat.reduceEqDiff, reduceCtorEq, argEnv, eq_self, if_true, if_false, *])
        exact q_next (i + 1) (by rfl) rfl (by omega) (by omega) fun r h => h
    · have hii : ¬ (i : Int) < (x.f.length : Int) := by omega
      simp only [c5_l3, hE, hii, hlf, s0, evX, Int.reduceEq, Int.reduceLT, Int.reduceLE, Nat.reduceMul, Nat.reduceMod, evW, fn_eq, evR, Nat.reduceAdd, Nat.reduceLT, Nat.reduceLeDiff, reduceIte, Nat.reduceEqDiff, reduceCtorEq, argEnv, eq_self, if_true, if_false]
      repeat' ((first | rw [guardK_cases] | rw [condK_bool] | rw [guardD_cases]); split <;> simp only [c5_l3, hE, hii, hlf, s0, evX, Int.reduceEq, Int.reduceLT, Int.reduceLE, Nat.reduceMul, Nat.reduceMod, evW, evR, Nat.reduceAdd, Nat.reduceLT, Nat.reduceLeDiff, reduceIte, Nat.reduceEqDiff, reduceCtorEq, argEnv, eq_self, if_true, if_false, *])
      exact q_exit ⟨_, rfl⟩
theorem mks_seen (x : Pr) (h : x.f.length ≤ 1000) : mksK 3 1 8 [.int .i64 0] [bTwo x] (some (.int .i64 (x.f.length : Int))) (some (.int .i64 (x.f.length : Int))) = some (svN x.f.length, sH x x.f.length (cnt x 0)) := by
  have hn : asNat (.int .i64 (x.f.length : Int)) = some x.f.length := asNat_cast ..
  simp only [mksK, hn]
  by_cases h0 : x.f.length = 0
  · rw [if_neg (by omega), if_pos ⟨h0, h0⟩, h0]; rfl
  · rw [if_pos ⟨Nat.le_refl _, by unfold reach; omega, by unfold reach; omega, rfl, by omega⟩]
    have hsv : svN x.f.length = .ref 1 0 1 0 x.f.length := by
      cases hf : x.f.length with
      | zero => exact absurd hf h0
      | succ n => rfl
    rw [hsv, cnt_zero]
    have : List.replicate x.f.length [AV.int .i64 0] = (tab x.f.length (fun _ => 0)).map rI := by
      apply List.ext_getElem?
      intro j
      by_cases hj : j < x.f.length
      · rw [List.getElem?_replicate, if_pos hj, List.getElem?_map, tab_at _ hj]; rfl
      · rw [List.getElem?_eq_none (by simpa using hj), List.getElem?_eq_none (by simp [tab_len]; omega)]
    simp [sH, h0, bTab, this]
theorem f5 (x : Pr) (h : x.Raw) : ∃ H', evC cprog 5 [eTwo x] [] = some (.bool true, H') := by
  obtain ⟨s, h9, hs⟩ := f9 x h [bTwo x]
  have h10 := f10
  have h18 := f18 x h
  simp only [eBase, eLink, eTwo, bTwo] at h9 h18
  rw [evC_fn at5]
  cases s with
  | false =>
    simp only [c5, eTwo, h9, h10, evX, Int.reduceEq, Int.reduceLT, Int.reduceLE, Nat.reduceMul, Nat.reduceMod, evW, fn_eq, evR, Nat.reduceAdd, Nat.reduceLT, Nat.reduceLeDiff, reduceIte, Nat.reduceEqDiff, reduceCtorEq, argEnv, eq_self, if_true, if_false]
    repeat' ((first | rw [guardK_cases] | rw [condK_bool] | rw [guardD_cases]); split <;> simp only [c5, eTwo, h9, h10, evX, Int.reduceEq, Int.reduceLT, Int.reduceLE, Nat.reduceMul, Nat.reduceMod, evW, evR, Nat.reduceAdd, Nat.reduceLT, Nat.reduceLeDiff, reduceIte, Nat.reduceEqDiff, reduceCtorEq, argEnv, eq_self, if_true, if_false, *])
    all_goals exact ⟨_, rfl⟩
  | true =>
    by_cases h0 : askE x = 0
    · obtain ⟨hok, hag⟩ := ask_ok h h0
      have h21 := f21 x h
      rw [h0] at h18 h21
      rw [show lostR x = lostL x from if_pos h0] at h21
      have hlf := (sItems [] x.f).len
      simp only [List.length_map] at hlf
      have hmk := mks_seen x (by have := hs rfl; omega)
      simp only [eBase, eLink, bTwo, eIE] at h21 hmk
      simp only [c5, eTwo, h9, h18, hlf, hmk, evX, Int.reduceEq, Int.reduceLT, Int.reduceLE, Nat.reduceMul, Nat.reduceMod, evW, fn_eq, evR, Nat.reduceAdd, Nat.reduceLT, Nat.reduceLeDiff, reduceIte, Nat.reduceEqDiff, reduceCtorEq, argEnv, eq_self, if_true, if_false]
      repeat' ((first | rw [guardK_cases] | rw [condK_bool] | rw [guardD_cases]); split <;> simp only [c5, eTwo, h9, h18, hlf, hmk, evX, Int.reduceEq, Int.reduceLT, Int.reduceLE, Nat.reduceMul, Nat.reduceMod, evW, evR, Nat.reduceAdd, Nat.reduceLT, Nat.reduceLeDiff, reduceIte, Nat.reduceEqDiff, reduceCtorEq, argEnv, eq_self, if_true, if_false, *])
      generalize hz : itLim _ _ = z
      obtain ⟨T, rfl, hT⟩ := l5_1 x h hok h0 _ (by rfl) rfl z hz
      have s0 := sH_two x x.f.length
      simp only [bTwo] at s0
      simp only [hT, s0, h21, evX, Int.reduceEq, Int.reduceLT, Int.reduceLE, Nat.reduceMul, Nat.reduceMod, evW, fn_eq, evR, Nat.reduceAdd, Nat.reduceLT, Nat.reduceLeDiff, reduceIte, Nat.reduceEqDiff, reduceCtorEq, argEnv, eq_self, if_true, if_false]
      repeat' ((first | rw [guardK_cases] | rw [condK_bool] | rw [guardD_cases]); split <;> simp only [hT, s0, h21, evX, Int.reduceEq, Int.reduceLT, Int.reduceLE, Nat.reduceMul, Nat.reduceMod, evW, evR, Nat.reduceAdd, Nat.reduceLT, Nat.reduceLeDiff, reduceIte, Nat.reduceEqDiff, reduceCtorEq, argEnv, eq_self, if_true, if_false, *])
      generalize hz2 : itLim _ _ = z
      obtain ⟨T2, rfl, hT2⟩ := l5_2 x hok (cnt x x.g.length) (cnt_le x _) _ (by rfl) rfl z hz2
      simp only [hT2, evX, Int.reduceEq, Int.reduceLT, Int.reduceLE, Nat.reduceMul, Nat.reduceMod, evW, fn_eq, evR, Nat.reduceAdd, Nat.reduceLT, Nat.reduceLeDiff, reduceIte, Nat.reduceEqDiff, reduceCtorEq, argEnv, eq_self, if_true, if_false]
      repeat' ((first | rw [guardK_cases] | rw [condK_bool] | rw [guardD_cases]); split <;> simp only [hT2, evX, Int.reduceEq, Int.reduceLT, Int.reduceLE, Nat.reduceMul, Nat.reduceMod, evW, evR, Nat.reduceAdd, Nat.reduceLT, Nat.reduceLeDiff, reduceIte, Nat.reduceEqDiff, reduceCtorEq, argEnv, eq_self, if_true, if_false, *])
      generalize hz3 : itLim _ _ = z
      rw [cnt_all] at hz3
      obtain ⟨T3, rfl⟩ := l5_3 x hok _ (by rfl) rfl z hz3
      simp only [h10, evX, Int.reduceEq, Int.reduceLT, Int.reduceLE, Nat.reduceMul, Nat.reduceMod, evW, fn_eq, evR, Nat.reduceAdd, Nat.reduceLT, Nat.reduceLeDiff, reduceIte, Nat.reduceEqDiff, reduceCtorEq, argEnv, eq_self, if_true, if_false]
      repeat' ((first | rw [guardK_cases] | rw [condK_bool] | rw [guardD_cases]); split <;> simp only [h10, evX, Int.reduceEq, Int.reduceLT, Int.reduceLE, Nat.reduceMul, Nat.reduceMod, evW, evR, Nat.reduceAdd, Nat.reduceLT, Nat.reduceLeDiff, reduceIte, Nat.reduceEqDiff, reduceCtorEq, argEnv, eq_self, if_true, if_false, *])
      exact ⟨_, rfl⟩
    · simp only [c5, eTwo, h9, h18, h0, h10, evX, Int.reduceEq, Int.reduceLT, Int.reduceLE, Nat.reduceMul, Nat.reduceMod, evW, fn_eq, evR, Nat.reduceAdd, Nat.reduceLT, Nat.reduceLeDiff, reduceIte, Nat.reduceEqDiff, reduceCtorEq, argEnv, eq_self, if_true, if_false]
      repeat' ((first | rw [guardK_cases] | rw [condK_bool] | rw [guardD_cases]); split <;> simp only [c5, eTwo, h9, h18, h0, h10, evX, Int.reduceEq, Int.reduceLT, Int.reduceLE, Nat.reduceMul, Nat.reduceMod, evW, evR, Nat.reduceAdd, Nat.reduceLT, Nat.reduceLeDiff, reduceIte, Nat.reduceEqDiff, reduceCtorEq, argEnv, eq_self, if_true, if_false, *])
      all_goals exact ⟨_, rfl⟩
end Go.Proofs.Ytbchmbddcdionaa.Code
namespace Go.Proofs.Ytbchmbddcdionaa.Pure
open Go.Proofs.Ytbchmbddcdionaa.Ev Go.Proofs.Ytbchmbddcdionaa.Code
theorem LogicBoth (a0 : AV) (t0 : ArgTy true [.str, .int .i64, .sl [.str, .int .i64, .int .i64, .int .i64, .sl [.str, .int .i64, .int .i64], .int .i64, .bool, .bool], .sl [.str, .int .i64, .int .i64, .str], .str, .int .i64, .sl [.str, .int .i64, .int .i64, .int .i64, .sl [.str, .int .i64, .int .i64], .int .i64, .bool, .bool], .sl [.str, .int .i64, .int .i64, .str], .int .i64, .int .i64, .str, .sl [.int .i64, .str], .sl [.int .i64, .str]] a0) : ∃ H', evC cprog 5 [a0] [] = some (.bool true, H') := by
  obtain ⟨x, rfl, hx⟩ := open_Two t0
  exact f5 x hx
end Go.Proofs.Ytbchmbddcdionaa.Pure

