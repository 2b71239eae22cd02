/- Texts of ours, joined into one file; each begins with its own remark. -/
import Derived.Test.YtcbmakanokmdjaaDoorEvZ
import Derived.Test.YtcbmakanokmdjaaDoorEvY
import Derived.Test.YtcbmakanokmdjaaDoorU1
import Derived.Test.YtcbmakanokmdjaaDoorCodeB
import Derived.Test.YtcbmakanokmdjaaDoorRepU
/- What a loop collects (generic). -/
set_option linter.unusedSimpArgs false
set_option linter.unusedVariables false
namespace Go.Proofs.YtcbmakanokmdjaaDoor.Code
open Go.Proofs.YtcbmakanokmdjaaDoor.Ev

/-- what is gathered, element by element -/
def gath {α β : Type} (g : Nat → α → List β) : Nat → List α → List β
  | _, [] => []
  | k, x :: l => g k x ++ gath g (k + 1) l
theorem gath_take {α β : Type} (g : Nat → α → List β) : ∀ (l : List α) (k i : Nat) (x : α), l[i]? = some x → gath g k (l.take (i + 1)) = gath g k (l.take i) ++ g (k + i) x
  | [], k, i, x, h => by simp at h
  | y :: l, k, 0, x, h => by
    simp at h; subst h
    simp [gath]
  | y :: l, k, i + 1, x, h => by
    rw [List.take_succ_cons, List.take_succ_cons, gath, gath, gath_take g l (k + 1) i x (by simpa using h), List.append_assoc, show k + 1 + i = k + (i + 1) by omega]
theorem gath_len {α β : Type} (g : Nat → α → List β) (h : ∀ i x, (g i x).length ≤ 1) : ∀ (l : List α) (k : Nat), (gath g k l).length ≤ l.length
  | [], k => by simp [gath]
  | y :: l, k => by
    have := gath_len g h l (k + 1)
    have := h k y
    simp only [gath, List.length_append, List.length_cons]; omega
theorem mem_gath {α β : Type} {g : Nat → α → List β} {b : β} : ∀ {l : List α} {k : Nat}, b ∈ gath g k l ↔ ∃ i x, l[i]? = some x ∧ b ∈ g (k + i) x
  | [], k => by simp [gath]
  | y :: l, k => by
    rw [gath, List.mem_append, mem_gath (l := l)]
    constructor
    · rintro (h | ⟨i, x, hx, h⟩)
      · exact ⟨0, y, rfl, h⟩
      · exact ⟨i + 1, x, by simpa using hx, by rwa [show k + (i + 1) = k + 1 + i by omega]⟩
    · rintro ⟨i, x, hx, h⟩
      cases i with
      | zero => simp at hx; subst hx; exact .inl h
      | succ i => exact .inr ⟨i, x, by simpa using hx, by rwa [show k + 1 + i = k + (i + 1) by omega]⟩
/-- a loop that gathers into a slice that grows -/
theorem gath_rule {α β : Type} (l : List α) (g : Nat → α → List β) (enc : β → List AV) (m : List Nat) (env : Nat → AV → Env) (H : Heap) (sz ty : Nat) (body : St → Option (CX × St)) (x0 : Nat) (mo : List Nat) (eo : AV → Env)
    (step : ∀ i x, l[i]? = some x → ∀ E X rv, keepEnv E m = env i rv → Out H.length sz ty X rv ((gath g 0 (l.take i)).map enc) →
      ∃ T X' rv', body (E, H ++ X) = some (.normal, T, H ++ X') ∧ keepEnv T m = env (i + 1) rv' ∧ Out H.length sz ty X' rv' ((gath g 0 (l.take i)).map enc ++ (g i x).map enc))
    (fin : ∀ E X rv, keepEnv E m = env l.length rv → ∃ T, body (E, H ++ X) = some (.exit x0, T, H ++ X) ∧ keepEnv T mo = eo rv)
    (st : St) (X0 : Heap) (rv0 : AV) (h0 : Out H.length sz ty X0 rv0 []) (hE : keepEnv st.1 m = env 0 rv0) (hH : st.2 = H ++ X0) (z : Option (CX × St)) (hz : itLim body st = z) :
    ∃ T X rv, z = some (.exit x0, T, H ++ X) ∧ keepEnv T mo = eo rv ∧ Out H.length sz ty X rv ((gath g 0 l).map enc) := by
  have L := loop_rule (σ := Nat × Heap × AV) (m := m) (env := fun s => env s.1 s.2.2) (hp := fun s => H ++ s.2.1)
    (P := fun _ r => ∃ T X rv, r = (.exit x0, T, H ++ X) ∧ keepEnv T mo = eo rv ∧ Out H.length sz ty X rv ((gath g 0 l).map enc))
    (mu := fun s => l.length - s.1) (I := fun s => s.1 ≤ l.length ∧ Out H.length sz ty s.2.1 s.2.2 ((gath g 0 (l.take s.1)).map enc)) body ?_ (0, X0, rv0) st ⟨by simp, by simpa [gath] using h0⟩ hE hH z hz
  · obtain ⟨_, rfl, T, X, rv, rfl, h⟩ := L
    exact ⟨T, X, rv, rfl, h⟩
  · intro ⟨i, X, rv⟩ ⟨hi, hO⟩ E hE
    simp only at hi hO hE ⊢
    by_cases hlt : i < l.length
    · obtain ⟨x, hx⟩ : ∃ x, l[i]? = some x := ⟨_, List.getElem?_eq_getElem hlt⟩
      obtain ⟨T, X', rv', h1, h2, h3⟩ := step i x hx E X rv hE hO
      rw [h1]
      refine q_next (i + 1, X', rv') h2 rfl ⟨by omega, ?_⟩ (by simp only; omega) fun r h => h
      simp only [gath_take g l 0 i x hx, Nat.zero_add, List.map_append]
      exact h3
    · have : i = l.length := by omega
      subst this
      obtain ⟨T, h1, h2⟩ := fin E X rv hE
      rw [h1]
      rw [List.take_of_length_le (Nat.le_refl _)] at hO
      exact q_exit ⟨_, _, _, rfl, h2, hO⟩
/-- the same behind what was gathered before -/
theorem gath_pre {α β : Type} (l : List α) (g : Nat → α → List β) (enc : β → List AV) (pre : List (List AV)) (m : List Nat) (env : Nat → AV → Env) (H : Heap) (sz ty : Nat) (body : St → Option (CX × St)) (x0 : Nat) (mo : List Nat) (eo : AV → Env)
    (step : ∀ i x, l[i]? = some x → ∀ E X rv, keepEnv E m = env i rv → Out H.length sz ty X rv (pre ++ (gath g 0 (l.take i)).map enc) →
      ∃ T X' rv', body (E, H ++ X) = some (.normal, T, H ++ X') ∧ keepEnv T m = env (i + 1) rv' ∧ Out H.length sz ty X' rv' (pre ++ (gath g 0 (l.take i)).map enc ++ (g i x).map enc))
    (fin : ∀ E X rv, keepEnv E m = env l.length rv → ∃ T, body (E, H ++ X) = some (.exit x0, T, H ++ X) ∧ keepEnv T mo = eo rv)
    (st : St) (X0 : Heap) (rv0 : AV) (h0 : Out H.length sz ty X0 rv0 pre) (hE : keepEnv st.1 m = env 0 rv0) (hH : st.2 = H ++ X0) (z : Option (CX × St)) (hz : itLim body st = z) :
    ∃ T X rv, z = some (.exit x0, T, H ++ X) ∧ keepEnv T mo = eo rv ∧ Out H.length sz ty X rv (pre ++ (gath g 0 l).map enc) := by
  have L := loop_rule (σ := Nat × Heap × AV) (m := m) (env := fun s => env s.1 s.2.2) (hp := fun s => H ++ s.2.1)
    (P := fun _ r => ∃ T X rv, r = (.exit x0, T, H ++ X) ∧ keepEnv T mo = eo rv ∧ Out H.length sz ty X rv (pre ++ (gath g 0 l).map enc))
    (mu := fun s => l.length - s.1) (I := fun s => s.1 ≤ l.length ∧ Out H.length sz ty s.2.1 s.2.2 (pre ++ (gath g 0 (l.take s.1)).map enc)) body ?_ (0, X0, rv0) st ⟨by simp, by simpa [gath] using h0⟩ hE hH z hz
  · obtain ⟨_, rfl, T, X, rv, rfl, h⟩ := L
    exact ⟨T, X, rv, rfl, h⟩
  · intro ⟨i, X, rv⟩ ⟨hi, hO⟩ E hE
    simp only at hi hO hE ⊢
    by_cases hlt : i < l.length
    · obtain ⟨x, hx⟩ : ∃ x, l[i]? = some x := ⟨_, List.getElem?_eq_getElem hlt⟩
      obtain ⟨T, X', rv', h1, h2, h3⟩ := step i x hx E X rv hE hO
      rw [h1]
      refine q_next (i + 1, X', rv') h2 rfl ⟨by omega, ?_⟩ (by simp only; omega) fun r h => h
      simp only [gath_take g l 0 i x hx, Nat.zero_add, List.map_append]
      simpa only [List.append_assoc] using h3
    · have : i = l.length := by omega
      subst this
      obtain ⟨T, h1, h2⟩ := fin E X rv hE
      rw [h1]
      rw [List.take_of_length_le (Nat.le_refl _)] at hO
      exact q_exit ⟨_, _, _, rfl, h2, hO⟩
theorem app_row {n sz ty : Nat} {X : Heap} {rv : AV} {rows : List (List AV)} (h : Out n sz ty X rv rows) (H0 : Heap) (hn : n = H0.length) (bytes : Nat) (r : List AV) (hr : r.length = sz) (hb : (rows.length + 1) * bytes ≤ reach ∧ rows.length + 1 ≤ reach) :
    ∃ rv' X', appK ty sz bytes false (H0 ++ (X ++ [⟨0, true, ty, sz, [r]⟩])) (some rv) (some (.ref (n + X.length) 0 sz 0 1)) = some (rv', H0 ++ X') ∧ rv'.isTup = false ∧ Out n sz ty X' rv' (rows ++ [r]) ∧ Keeps n (X ++ [⟨0, true, ty, sz, [r]⟩]) rv X' ∧ Moved n (X ++ [⟨0, true, ty, sz, [r]⟩]) rv rv' := by
  subst hn
  exact (h.more [⟨0, true, ty, sz, [r]⟩]).app2 H0 rfl bytes _ [r] (by simp [srcRows, rowsOf, curBlk, at_app]) (by simpa using hr) (by simp) (by simpa using hb)
/-- one element more, of one cell -/
theorem app_int {n ty : Nat} {X : Heap} {rv : AV} {l : List Int} (h : Out n 1 ty X rv (l.map rI)) (H0 : Heap) (hn : n = H0.length) (hl : l.length ≤ 1000000) (a : Int) :
    ∃ rv' X', appK ty 1 8 false (H0 ++ (X ++ [⟨0, true, ty, 1, [[.int .i64 a]]⟩])) (some rv) (some (.ref (H0.length + X.length) 0 1 0 1)) = some (rv', H0 ++ X') ∧ rv'.isTup = false ∧ Out n 1 ty X' rv' ((l ++ [a]).map rI) := by
  subst hn
  obtain ⟨rv', X', a1, a2, a3, _⟩ := app_row h H0 rfl 8 (rI a) rfl (by simp only [List.length_map, reach]; omega)
  exact ⟨rv', X', a1, a2, by simpa using a3⟩

end Go.Proofs.YtcbmakanokmdjaaDoor.Code

/- siblings further apart (as in wip/logic/Yr) -/
set_option linter.unusedSimpArgs false
set_option linter.unusedVariables false
namespace Go.Proofs.YtcbmakanokmdjaaDoor.Code
open Go.Proofs.YtcbmakanokmdjaaDoor.Ev

theorem nil_slat (H : Heap) : SlAt H 1 .nils (([] : List Int).map rI) := out_slat (.nils 0 1 3 H) [] rfl (by simp)
end Go.Proofs.YtcbmakanokmdjaaDoor.Code

/- plain: the children of an item, and where a new one stands: mathematics. -/
set_option linter.unusedSimpArgs false
set_option linter.unusedVariables false
namespace Go.Proofs.YtcbmakanokmdjaaDoor.Code
open Go.Proofs.YtcbmakanokmdjaaDoor.Ev

end Go.Proofs.YtcbmakanokmdjaaDoor.Code

/- plain: the children of an item, and where a new one stands, of the program. -/
set_option linter.unusedSimpArgs false
set_option linter.unusedVariables false
namespace Go.Proofs.YtcbmakanokmdjaaDoor.Code
open Go.Proofs.YtcbmakanokmdjaaDoor.Ev

end Go.Proofs.YtcbmakanokmdjaaDoor.Code

/- plain: where a new item stands, of the program: the walk. -/
set_option linter.unusedSimpArgs false
set_option linter.unusedVariables false
namespace Go.Proofs.YtcbmakanokmdjaaDoor.Code
open Go.Proofs.YtcbmakanokmdjaaDoor.Ev

end Go.Proofs.YtcbmakanokmdjaaDoor.Code

/- plain: where a new item stands, of the program: place. -/
set_option linter.unusedSimpArgs false
set_option linter.unusedVariables false
namespace Go.Proofs.YtcbmakanokmdjaaDoor.Code
open Go.Proofs.YtcbmakanokmdjaaDoor.Ev

end Go.Proofs.YtcbmakanokmdjaaDoor.Code

/- plain: where a new item stands, of the document. -/
set_option linter.unusedSimpArgs false
set_option linter.unusedVariables false
namespace Go.Proofs.YtcbmakanokmdjaaDoor.Code
open Go.Proofs.YtcbmakanokmdjaaDoor.Ev

end Go.Proofs.YtcbmakanokmdjaaDoor.Code

/- octet.Key, of the program and of the document: the keys of lists of texts. -/
set_option linter.unusedSimpArgs false
set_option linter.unusedVariables false
namespace Go.Proofs.YtcbmakanokmdjaaDoor.Code
open Go.Proofs.YtcbmakanokmdjaaDoor.Ev

def rS (s : ByteArray) : List AV := [.str s]
def rU (b : UInt8) : List AV := [.int .u8 (b.toNat : Int)]
def eU (l : List UInt8) : AV := .lst (l.map rU)
theorem aU {l : List UInt8} {i : Nat} {x : UInt8} (hx : l[i]? = some x) : iaddrK 1 (some (eU l)) (some (.int .i64 (i : Int))) = some (.fptr (rU x)) := lFp rU (fun _ => rfl) hx
theorem sU (H : Heap) (l : List UInt8) : SlAt H 1 (eU l) (l.map rU) := sLst rU (fun _ => rfl) H l
def keyG (_ : Nat) (s : ByteArray) : List UInt8 := esc s.data.toList ++ [0, 1]
def keyU (l : List ByteArray) : List UInt8 := gath keyG 0 l
theorem data_len (s : ByteArray) : s.data.toList.length = s.size := Array.length_toList
theorem keyG_len (l : List ByteArray) (h : ∀ s ∈ l, s.size ≤ 1000) : ∀ k, (gath keyG k l).length ≤ 2002 * l.length := by
  induction l with
  | nil => intro k; simp [gath]
  | cons s l ih =>
    intro k
    have h1 := h s (by simp)
    have h2 := ih (fun t ht => h t (by simp [ht])) (k + 1)
    have h3 := esc_len s.data.toList
    rw [data_len] at h3
    simp only [gath, keyG, List.length_append, List.length_cons, List.length_nil]
    omega
theorem plain_U (q : List UInt8) : Plain (q.map rU) := by
  intro r hr a ha
  obtain ⟨n, _, rfl⟩ := List.mem_map.1 hr
  obtain rfl : a = .int .u8 (n.toNat : Int) := by simpa [rU] using ha
  exact ⟨rfl, fun _ _ => rfl⟩
theorem rU_rows (q : List UInt8) : ∀ r ∈ q.map rU, r.length = 1 := fun r hr => by obtain ⟨y, _, rfl⟩ := List.mem_map.1 hr; rfl
theorem byteRows_U (s : ByteArray) : byteRows s = s.data.toList.map rU := rfl
theorem fn_uRep {call it} {n : Nat} {res : List CRes} {p : List AV → Heap → Option (List AV × Heap)} (args : List AV) (H : Heap) : evFn call it ⟨n, res, .user p, false, false⟩ args H = bodyK res ((p args H).map fun r => (CX.ret, (argEnv 0 r.1, r.2))) := by
  rw [fn_eq]
  simp only [evCode, user_args]
theorem f66 (s : ByteArray) (hs : s.size ≤ 1000000) (H : Heap) : cal (evC cprog) false 66 [.str s, .str ⟨#[0]⟩, .str ⟨#[0, 255]⟩] H = some (.str ⟨(esc s.data.toList).toArray⟩, H) := by
  rw [cal_of at66, show c66 = ⟨0, [.t 0], .user pRepl, false, false⟩ from rfl, fn_uRep]
  have h : pRepl [.str s, .str ⟨#[0]⟩, .str ⟨#[0, 255]⟩] H = some ([.str ⟨(esc s.data.toList).toArray⟩], H) := by
    simp only [pRepl]
    rw [if_pos ⟨trivial, trivial, hs⟩]
  rw [h]
  simp only [evX, Int.reduceEq, Int.reduceLT, Int.reduceLE, Nat.reduceMul, Nat.reduceMod, evW, fn_eq, evR, Nat.reduceAdd, Nat.reduceLT, Nat.reduceLeDiff, reduceIte, Nat.reduceEqDiff, reduceCtorEq, argEnv, eq_self, if_true, if_false]
theorem slS {H : Heap} {a : AV} {l : List ByteArray} (h : SlAt H 1 a (l.map rS)) {i : Nat} {s : ByteArray} (hi : l[i]? = some s) : ∃ p, iaddrK 1 (some a) (some (.int .i64 (i : Int))) = some p ∧ ∀ X, loadK false 1 (H ++ X) (some p) = some (.str s) := by
  obtain ⟨_, p, h1, h2⟩ := h.get i (rS s) (by rw [List.getElem?_map, hi]; rfl)
  exact ⟨p, h1, fun X => h2.onex X⟩
theorem f49 (a : AV) (l : List ByteArray) (hl : l.length ≤ 1000) (hs : ∀ s ∈ l, s.size ≤ 1000) (H : Heap) (hsl : SlAt H 1 a (l.map rS)) : cal (evC cprog) true 49 [a] H = some (eU (keyU l), H) := by
  rw [cal_of at49]
  have hlen := hsl.len
  simp only [List.length_map] at hlen
  simp only [c49, hlen, evX, Int.reduceEq, Int.reduceLT, Int.reduceLE, Nat.reduceMul, Nat.reduceMod, evW, fn_eq, evR, Nat.reduceAdd, Nat.reduceLT, Nat.reduceLeDiff, reduceIte, Nat.reduceEqDiff, reduceCtorEq, argEnv, eq_self, if_true, if_false]
  generalize hz : itLim _ _ = z
  obtain ⟨T, X, rv, rfl, hT, hO⟩ := gath_rule l keyG rU [3, 6, 7, 8] (fun i rv => [(3, rv), (6, a), (7, .int .i64 (l.length : Int)), (8, .int .i64 (i : Int))]) H 1 5 (evCode (evC cprog) itLim c49_l0) 0 [3] (fun rv => [(3, rv)])
    (fun i s hx E X rv hE hO => by
      have hlt : i < l.length := (List.getElem?_eq_some_iff.1 hx).1
      have hi : (i : Int) < (l.length : Int) := by omega
      have hw := wrapS hlt (by omega)
      obtain ⟨p, hp, hq⟩ := slS hsl hx
      have hss := hs s (List.mem_of_getElem? hx)
      have h66 := fun K => f66 s (by omega) K
      have hb := keyG_len (l.take i) (fun t ht => hs t (List.mem_of_mem_take ht)) 0
      rw [List.length_take] at hb
      have he := esc_len s.data.toList
      rw [data_len] at he
      obtain ⟨rv1, X1, a1, a2, a3⟩ := hO.app H rfl 1 (.str ⟨(esc s.data.toList).toArray⟩) ((esc s.data.toList).map rU) (by simp [srcRows, byteRows_U]) (rU_rows _) (by simp only [List.length_map, reach]; omega)
      have a3' := a3.more [⟨0, true, 5, 1, [[.int .u8 0], [.int .u8 1]]⟩]
      obtain ⟨rv2, X2, b1, b2, b3⟩ := a3'.app H rfl 1 (.ref (H.length + X1.length) 0 1 0 2) [[.int .u8 0], [.int .u8 1]] (by simp [srcRows, rowsOf, curBlk, at_app]) (by simp) (by simp only [List.length_map, List.length_append, List.length_cons, List.length_nil, reach]; omega)
      simp only [c49_l0, hE, hi, hp, hq, h66, a1, a2, b1, b2, hw, evX, Int.reduceEq, Int.reduceLT, Int.reduceLE, Nat.reduceMul, Nat.reduceMod, evW, fn_eq, evR, Nat.reduceAdd, Nat.reduceLT, Nat.reduceLeDiff, reduceIte, Nat.reduceEqDiff, reduceCtorEq, argEnv, eq_self, if_true, if_false]
      exact ⟨_, _, _, rfl, by rfl, by simpa [keyG, rU] using b3⟩)
    (fun E X rv hE => by
      simp only [c49_l0, hE, Int.lt_irrefl, evX, Int.reduceEq, Int.reduceLT, Int.reduceLE, Nat.reduceMul, Nat.reduceMod, evW, fn_eq, evR, Nat.reduceAdd, Nat.reduceLT, Nat.reduceLeDiff, reduceIte, Nat.reduceEqDiff, reduceCtorEq, argEnv, eq_self, if_true, if_false]
      exact ⟨_, rfl, by rfl⟩) _ [] .nils (.nils ..) (by rfl) (by simp) z hz
  simp only [hT, out_tup hO, evX, Int.reduceEq, Int.reduceLT, Int.reduceLE, Nat.reduceMul, Nat.reduceMod, evW, fn_eq, evR, Nat.reduceAdd, Nat.reduceLT, Nat.reduceLeDiff, reduceIte, Nat.reduceEqDiff, reduceCtorEq, argEnv, eq_self, if_true, if_false]
  exact frz_out hO H [] (by simp) (plain_U _)
end Go.Proofs.YtcbmakanokmdjaaDoor.Code

/- ref01.Key: the document's keys of lists of texts. -/
set_option linter.unusedSimpArgs false
set_option linter.unusedVariables false
namespace Go.Proofs.YtcbmakanokmdjaaDoor.Code
open Go.Proofs.YtcbmakanokmdjaaDoor.Ev

def escG (_ : Nat) (b : UInt8) : List UInt8 := if b = 0 then [0, 255] else [b]
theorem esc_gath : ∀ (l : List UInt8) (k : Nat), gath escG k l = esc l
  | [], _ => rfl
  | b :: l, k => by
    rw [gath, esc_gath l (k + 1), esc, escG]
    split <;> simp_all
theorem esc_take (l : List UInt8) (i : Nat) : (gath escG 0 (l.take i)).length ≤ 2 * l.length := by
  rw [esc_gath]
  have := esc_len (l.take i)
  rw [List.length_take] at this
  omega
theorem l51_0 (a : AV) (l : List ByteArray) (i : Nat) (s : ByteArray) (hi : l[i]? = some s) (hs : s.size ≤ 1000) (pre : List UInt8) (hpre : pre.length ≤ 10000000) (H X : Heap) (hsl : SlAt H 1 a (l.map rS)) (rv : AV) (hO : Out H.length 1 5 X rv (pre.map rU)) (st : St)
    (hE : keepEnv st.1 [0, 3, 4, 5] = [(0, a), (3, rv), (4, .int .i64 (i : Int)), (5, .int .i64 0)]) (hH : st.2 = H ++ X) (z : Option (CX × St)) (hz : itLim (evCode (evC cprog) itLim c51_l0) st = z) :
    ∃ T X' rv', z = some (.exit 2, T, H ++ X') ∧ keepEnv T [0, 3, 4] = [(0, a), (3, rv'), (4, .int .i64 (i : Int))] ∧ Out H.length 1 5 X' rv' ((pre ++ esc s.data.toList).map rU) := by
  obtain ⟨p, hp, hq⟩ := slS hsl hi
  have hsz := data_len s
  have L := gath_pre s.data.toList escG rU (pre.map rU) [0, 3, 4, 5] (fun k rv => [(0, a), (3, rv), (4, .int .i64 (i : Int)), (5, .int .i64 (k : Int))]) H 1 5 (evCode (evC cprog) itLim c51_l0) 2 [0, 3, 4] (fun rv => [(0, a), (3, rv), (4, .int .i64 (i : Int))])
    (fun k b hb E X rv hE hO => by
      have hlt : k < s.data.toList.length := (List.getElem?_eq_some_iff.1 hb).1
      have hk : (k : Int) < (s.size : Int) := by omega
      have hw := wrapS (i := k) (n := 1000) (by omega) (by omega)
      have hix : idxK (some (.str s)) (some (.int .i64 (k : Int))) = some (.int .u8 (b.toNat : Int)) := by
        simp only [idxK, asNat_cast, byteK, hb]
      have hlen := esc_take s.data.toList k
      have hO1 := hO.more [⟨0, true, 5, 1, [[.int .u8 (b.toNat : Int)]]⟩]
      obtain ⟨rv1, X1, a1, a2, a3⟩ := hO1.app H rfl 1 (.ref (H.length + X.length) 0 1 0 1) [[.int .u8 (b.toNat : Int)]] (by simp [srcRows, rowsOf, curBlk, at_app]) (by simp) (by simp only [List.length_map, List.length_append, List.length_cons, List.length_nil, reach]; omega)
      by_cases h0 : b = 0
      · subst h0
        have hO2 := a3.more [⟨0, true, 5, 1, [[.int .u8 255]]⟩]
        obtain ⟨rv2, X2, b1, b2, b3⟩ := hO2.app H rfl 1 (.ref (H.length + X1.length) 0 1 0 1) [[.int .u8 255]] (by simp [srcRows, rowsOf, curBlk, at_app]) (by simp) (by simp only [List.length_map, List.length_append, List.length_cons, List.length_nil, reach]; omega)
        have hz0 : ((UInt8.toNat 0 : Nat) : Int) = 0 := rfl
        rw [hz0] at hix a1
        simp only [c51_l0, hE, hp, hq, hk, hix, a1, a2, b1, b2, hw, evX, Int.reduceEq, Int.reduceLT, Int.reduceLE, Nat.reduceMul, Nat.reduceMod, evW, fn_eq, evR, Nat.reduceAdd, Nat.reduceLT, Nat.reduceLeDiff, reduceIte, Nat.reduceEqDiff, reduceCtorEq, argEnv, eq_self, if_true, if_false]
        exact ⟨_, _, _, rfl, by rfl, by simpa [escG, rU] using b3⟩
      · have hne : ¬ (b.toNat : Int) = 0 := fun h => h0 (UInt8.toNat_inj.1 (by rw [show (0 : UInt8).toNat = 0 from rfl]; omega))
        simp only [c51_l0, hE, hp, hq, hk, hix, hne, a1, a2, hw, evX, Int.reduceEq, Int.reduceLT, Int.reduceLE, Nat.reduceMul, Nat.reduceMod, evW, fn_eq, evR, Nat.reduceAdd, Nat.reduceLT, Nat.reduceLeDiff, reduceIte, Nat.reduceEqDiff, reduceCtorEq, argEnv, eq_self, if_true, if_false]
        exact ⟨_, _, _, rfl, by rfl, by simpa [escG, h0, rU] using a3⟩)
    (fun E X rv hE => by
      rw [hsz] at hE
      simp only [c51_l0, hE, hp, hq, Int.lt_irrefl, evX, Int.reduceEq, Int.reduceLT, Int.reduceLE, Nat.reduceMul, Nat.reduceMod, evW, fn_eq, evR, Nat.reduceAdd, Nat.reduceLT, Nat.reduceLeDiff, reduceIte, Nat.reduceEqDiff, reduceCtorEq, argEnv, eq_self, if_true, if_false]
      exact ⟨_, rfl, by rfl⟩) st X rv hO (by simpa using hE) hH z hz
  obtain ⟨T, X', rv', h1, h2, h3⟩ := L
  refine ⟨T, X', rv', h1, h2, ?_⟩
  rw [esc_gath] at h3
  simpa using h3
theorem f51 (a : AV) (l : List ByteArray) (hl : l.length ≤ 1000) (hs : ∀ s ∈ l, s.size ≤ 1000) (H : Heap) (hsl : SlAt H 1 a (l.map rS)) : cal (evC cprog) true 51 [a] H = some (eU (keyU l), H) := by
  rw [cal_of at51]
  have hlen := hsl.len
  simp only [List.length_map] at hlen
  simp only [c51, evX, Int.reduceEq, Int.reduceLT, Int.reduceLE, Nat.reduceMul, Nat.reduceMod, evW, fn_eq, evR, Nat.reduceAdd, Nat.reduceLT, Nat.reduceLeDiff, reduceIte, Nat.reduceEqDiff, reduceCtorEq, argEnv, eq_self, if_true, if_false]
  generalize hz : itLim _ _ = z
  obtain ⟨T, X, rv, rfl, hT, hO⟩ := gath_rule l keyG rU [0, 3, 4] (fun i rv => [(0, a), (3, rv), (4, .int .i64 (i : Int))]) H 1 5 (evCode (evC cprog) itLim c51_l1) 0 [3] (fun rv => [(3, rv)])
    (fun i s hx E X rv hE hO => by
      have hlt : i < l.length := (List.getElem?_eq_some_iff.1 hx).1
      have hi : (i : Int) < (l.length : Int) := by omega
      have hw := wrapS hlt (by omega)
      have hss := hs s (List.mem_of_getElem? hx)
      have hb := keyG_len (l.take i) (fun t ht => hs t (List.mem_of_mem_take ht)) 0
      rw [List.length_take] at hb
      have he := esc_len s.data.toList
      rw [data_len] at he
      simp only [c51_l1, hE, hi, hlen, evX, Int.reduceEq, Int.reduceLT, Int.reduceLE, Nat.reduceMul, Nat.reduceMod, evW, fn_eq, evR, Nat.reduceAdd, Nat.reduceLT, Nat.reduceLeDiff, reduceIte, Nat.reduceEqDiff, reduceCtorEq, argEnv, eq_self, if_true, if_false]
      generalize hz : itLim _ _ = z
      obtain ⟨T, X1, rv1, rfl, hT, hO1⟩ := l51_0 a l i s hx (by omega) _ (by omega) H X hsl rv hO _ (by rfl) rfl z hz
      have hO2 := hO1.more [⟨0, true, 5, 1, [[.int .u8 0], [.int .u8 1]]⟩]
      obtain ⟨rv2, X2, b1, b2, b3⟩ := hO2.app H rfl 1 (.ref (H.length + X1.length) 0 1 0 2) [[.int .u8 0], [.int .u8 1]] (by simp [srcRows, rowsOf, curBlk, at_app]) (by simp) (by simp only [List.length_map, List.length_append, List.length_cons, List.length_nil, reach]; omega)
      simp only [hT, b1, b2, hw, evX, Int.reduceEq, Int.reduceLT, Int.reduceLE, Nat.reduceMul, Nat.reduceMod, evW, fn_eq, evR, Nat.reduceAdd, Nat.reduceLT, Nat.reduceLeDiff, reduceIte, Nat.reduceEqDiff, reduceCtorEq, argEnv, eq_self, if_true, if_false]
      exact ⟨_, _, _, rfl, by rfl, by simpa [keyG, rU] using b3⟩)
    (fun E X rv hE => by
      simp only [c51_l1, hE, hlen, Int.lt_irrefl, evX, Int.reduceEq, Int.reduceLT, Int.reduceLE, Nat.reduceMul, Nat.reduceMod, evW, fn_eq, evR, Nat.reduceAdd, Nat.reduceLT, Nat.reduceLeDiff, reduceIte, Nat.reduceEqDiff, reduceCtorEq, argEnv, eq_self, if_true, if_false]
      exact ⟨_, rfl, by rfl⟩) _ [] .nils (.nils ..) (by rfl) (by simp) z hz
  simp only [hT, out_tup hO, evX, Int.reduceEq, Int.reduceLT, Int.reduceLE, Nat.reduceMul, Nat.reduceMod, evW, fn_eq, evR, Nat.reduceAdd, Nat.reduceLT, Nat.reduceLeDiff, reduceIte, Nat.reduceEqDiff, reduceCtorEq, argEnv, eq_self, if_true, if_false]
  exact frz_out hO H [] (by simp) (plain_U _)
end Go.Proofs.YtcbmakanokmdjaaDoor.Code

/- (stands where another seat has texts of its own) -/
set_option linter.unusedSimpArgs false
set_option linter.unusedVariables false

/- logic: paths, of the program and of the document. -/
set_option linter.unusedSimpArgs false
set_option linter.unusedVariables false
namespace Go.Proofs.YtcbmakanokmdjaaDoor.Code
open Go.Proofs.YtcbmakanokmdjaaDoor.Ev

/-- the ends of a list, changed with each other -/
def swp (l : List Int) (t : Nat) : List Int := (List.range l.length).map fun k => if k < t ∨ l.length ≤ k + t then l.getD (l.length - 1 - k) 0 else l.getD k 0
theorem swp_len (l : List Int) (t : Nat) : (swp l t).length = l.length := by simp [swp]
theorem swp_at (l : List Int) (t k : Nat) (hk : k < l.length) : (swp l t)[k]? = some (if k < t ∨ l.length ≤ k + t then l.getD (l.length - 1 - k) 0 else l.getD k 0) := by simp [swp, hk]
theorem swp_zero (l : List Int) : swp l 0 = l := by
  apply List.ext_getElem? 
  intro k
  by_cases hk : k < l.length
  · rw [swp_at l 0 k hk, if_neg (by omega), List.getD_eq_getElem?_getD, List.getElem?_eq_getElem hk]; rfl
  · rw [List.getElem?_eq_none (by rw [swp_len]; omega), List.getElem?_eq_none (by omega)]
theorem swp_all (l : List Int) (t : Nat) (h : l.length ≤ 2 * t + 1) : swp l t = l.reverse := by
  apply List.ext_getElem?
  intro k
  by_cases hk : k < l.length
  · rw [swp_at l t k hk, List.getElem?_reverse hk]
    have e : (if k < t ∨ l.length ≤ k + t then l.getD (l.length - 1 - k) 0 else l.getD k 0) = l.getD (l.length - 1 - k) 0 := by
      split
      · rfl
      · congr 1; omega
    rw [e, List.getD_eq_getElem?_getD, List.getElem?_eq_getElem (by omega)]; rfl
  · rw [List.getElem?_eq_none (by rw [swp_len]; omega), List.getElem?_eq_none (by simp; omega)]
theorem swp_step (l : List Int) (t : Nat) (h : 2 * t + 1 < l.length) : ((swp l t).set t (l.getD (l.length - 1 - t) 0)).set (l.length - 1 - t) (l.getD t 0) = swp l (t + 1) := by
  apply List.ext_getElem?
  intro k
  by_cases hk : k < l.length
  · rw [swp_at l (t + 1) k hk, List.getElem?_set, List.getElem?_set]
    simp only [List.length_set, swp_len]
    by_cases h1 : l.length - 1 - t = k
    · rw [if_pos h1, if_pos (by omega), if_pos (by omega)]
      congr 2; omega
    · rw [if_neg h1]
      by_cases h2 : t = k
      · rw [if_pos h2, if_pos (by omega), if_pos (by omega), h2]
      · rw [if_neg h2, swp_at l t k hk]
        congr 1
        by_cases h3 : k < t ∨ l.length ≤ k + t
        · rw [if_pos h3, if_pos (by omega)]
        · rw [if_neg h3, if_neg (by omega)]
  · rw [List.getElem?_eq_none (by simp [swp_len]; omega), List.getElem?_eq_none (by rw [swp_len]; omega)]
theorem swp_row {l : List Int} {t k : Nat} (h1 : t ≤ k) (h2 : k + t < l.length) : ((swp l t).map rI)[k]? = some [.int .i64 (l.getD k 0)] := by
  rw [List.getElem?_map, swp_at l t k (by omega), if_neg (by omega)]; rfl
theorem f58 (H : Heap) (b v : Nat) (l : List Int) (hb : H[b]? = some ⟨v, true, 3, 1, l.map rI⟩) (h0 : 0 < l.length) (hl : l.length ≤ 1000) : cal (evC cprog) false 58 [.ref b v 1 0 l.length] H = some (.tup [], H.set b ⟨v, true, 3, 1, l.reverse.map rI⟩) := by
  rw [cal_of at58]
  have hbl := (List.getElem?_eq_some_iff.1 hb).1
  have hw0 : IntKind.i64.wrap ((l.length : Int) - 1) = ((l.length - 1 : Nat) : Int) := by rw [wrap_i64 (by omega) (by omega)]; omega
  simp only [c58, hw0, evX, Int.reduceEq, Int.reduceLT, Int.reduceLE, Nat.reduceMul, Nat.reduceMod, evW, fn_eq, evR, Nat.reduceAdd, Nat.reduceLT, Nat.reduceLeDiff, reduceIte, Nat.reduceEqDiff, reduceCtorEq, argEnv, eq_self, if_true, if_false]
  generalize hz : itLim _ _ = z
  have L := loop_rule (σ := Nat) (m := [0, 2, 3]) (env := fun t => [(0, .ref b v 1 0 l.length), (2, .int .i64 (t : Int)), (3, .int .i64 ((l.length - 1 - t : Nat) : Int))]) (hp := fun t => H.set b ⟨v, true, 3, 1, (swp l t).map rI⟩)
    (P := fun _ r => ∃ T, r = (.exit 0, T, H.set b ⟨v, true, 3, 1, l.reverse.map rI⟩))
    (mu := fun t => l.length - t) (I := fun t => 2 * t ≤ l.length) (evCode (evC cprog) itLim c58_l0) ?_ 0 _ (by omega) (by rfl) (by
      rw [swp_zero]
      exact List.ext_getElem? fun j => by
        by_cases e : b = j
        · subst e; rw [List.getElem?_set_self hbl, hb]
        · rw [List.getElem?_set_ne e]) z hz
  · obtain ⟨_, rfl, T, rfl⟩ := L
    simp only [evX, Int.reduceEq, Int.reduceLT, Int.reduceLE, Nat.reduceMul, Nat.reduceMod, evW, fn_eq, evR, Nat.reduceAdd, Nat.reduceLT, Nat.reduceLeDiff, reduceIte, Nat.reduceEqDiff, reduceCtorEq, argEnv, eq_self, if_true, if_false]
    show some (AV.tup [], gc H (AV.tup []) (H.set b ⟨v, true, 3, 1, l.reverse.map rI⟩)) = _
    rcases gc_or H (.tup []) (H.set b ⟨v, true, 3, 1, l.reverse.map rI⟩) with h | ⟨h, ht⟩
    · rw [h]
    · rw [List.take_of_length_le (by simp)] at ht
      rw [h, ht]
  · intro t ht E hE
    by_cases hlt : 2 * t + 1 < l.length
    · have hii : (t : Int) < ((l.length - 1 - t : Nat) : Int) := by omega
      have r1 := swp_row (l := l) (t := t) (k := t) (Nat.le_refl _) (by omega)
      have r2 := swp_row (l := l) (t := t) (k := l.length - 1 - t) (by omega) (by omega)
      have r3 : (((swp l t).map rI).set t [.int .i64 (l.getD (l.length - 1 - t) 0)])[l.length - 1 - t]? = some [.int .i64 (l.getD (l.length - 1 - t) 0)] := by
        rw [List.getElem?_set_ne (by omega)]; exact r2
      have hst : (((swp l t).map rI).set t [.int .i64 (l.getD (l.length - 1 - t) 0)]).set (l.length - 1 - t) [.int .i64 (l.getD t 0)] = (swp l (t + 1)).map rI := by
        rw [← swp_step l t hlt, List.map_set, List.map_set]; rfl
      have k1 : t < l.length := by omega
      have k2 : l.length - 1 - t < l.length := by omega
      have hw1 : IntKind.i64.wrap ((t : Int) + 1) = ((t + 1 : Nat) : Int) := by rw [wrap_i64 (by omega) (by omega)]; omega
      have hw2 : IntKind.i64.wrap (((l.length - 1 - t : Nat) : Int) - 1) = ((l.length - 1 - (t + 1) : Nat) : Int) := by rw [wrap_i64 (by omega) (by omega)]; omega
      have hat : ∀ B, (H.set b B)[b]? = some B := fun B => List.getElem?_set_self hbl
      generalize l.length - 1 - t = j at *
      simp only [c58_l0, hE, hii, hat, r1, r2, r3, hst, List.set_set, k1, k2, hw1, hw2, asNat_cast, evX, Int.reduceEq, Int.reduceLT, Int.reduceLE, Nat.reduceMul, Nat.reduceMod, evW, fn_eq, evR, Nat.reduceAdd, Nat.reduceLT, Nat.reduceLeDiff, reduceIte, Nat.reduceEqDiff, reduceCtorEq, argEnv, eq_self, if_true, if_false]
      exact q_next (t + 1) (by rfl) (by rfl) (by omega) (by omega) fun r h => h
    · have hii : ¬ (t : Int) < ((l.length - 1 - t : Nat) : Int) := by omega
      rw [swp_all l t (by omega)]
      simp only [c58_l0, hE, hii, evX, Int.reduceEq, Int.reduceLT, Int.reduceLE, Nat.reduceMul, Nat.reduceMod, evW, fn_eq, evR, Nat.reduceAdd, Nat.reduceLT, Nat.reduceLeDiff, reduceIte, Nat.reduceEqDiff, reduceCtorEq, argEnv, eq_self, if_true, if_false]
      exact q_exit ⟨_, rfl⟩
end Go.Proofs.YtcbmakanokmdjaaDoor.Code

/- logic: paths, of the program and of the document: the walks up. -/
set_option linter.unusedSimpArgs false
set_option linter.unusedVariables false
namespace Go.Proofs.YtcbmakanokmdjaaDoor.Code
open Go.Proofs.YtcbmakanokmdjaaDoor.Ev

/-- a walk up: what is ahead, and what was walked -/
structure Walks (b : Base) (f : List Item) (i : Nat) (c : Int) (acc : List Int) : Prop where
  lo : -1 ≤ c
  hi : c < (f.length : Int)
  eq : pth b.types f i = pthI b.types f c ++ acc
  len : (acc.length : Int) + c ≤ (f.length : Int)
theorem Walks.step {b : Base} {f : List Item} {i c : Nat} {acc : List Int} (w : Walks b f i (c : Int) acc) : Walks b f i (par b.types f c) ((c : Int) :: acc) := by
  have h1 := w.hi
  have hp := par_lt b.types f c
  refine ⟨hp.1, by omega, ?_, by have := w.len; simp; omega⟩
  rw [w.eq, pthI_nat, pth_eq b.types f (by omega), List.append_assoc]; rfl
theorem Walks.last {b : Base} {f : List Item} {i : Nat} {c : Int} {acc : List Int} (w : Walks b f i c acc) (h : c < 0) : acc = pth b.types f i := by
  rw [w.eq, pthI_neg _ _ h]; rfl
theorem out_src_more {n ty : Nat} {X : Heap} {rv : AV} {rows : List (List AV)} (h : Out n 1 ty X rv rows) (H : Heap) (hn : n = H.length) (Y : Heap) : srcRows (H ++ (X ++ Y)) rv = some rows := by
  subst hn
  rcases h with ⟨rfl, rfl | rfl⟩ | ⟨h1, j, v, rfl, h3⟩
  · rfl
  · rfl
  · have hl := (List.getElem?_eq_some_iff.1 h3).1
    cases hr : rows.length with
    | zero => exact absurd (List.eq_nil_of_length_eq_zero hr) h1
    | succ m =>
      have hc : curBlk (H ++ (X ++ Y)) (H.length + j) v 1 = some ⟨v, true, ty, 1, rows⟩ := by simp [curBlk, at_app, List.getElem?_append_left hl, h3]
      simp only [srcRows, rowsOf, hc, Option.map_some, List.drop_zero]
      rw [List.take_of_length_le (by omega)]
theorem rI_rows (l : List Int) : ∀ r ∈ l.map rI, r.length = 1 := fun r hr => by obtain ⟨y, _, rfl⟩ := List.mem_map.1 hr; rfl
theorem f37 (b : Base) (f : List Item) (hr : Right b f) (i : Nat) (hi : i < f.length) (H : Heap) : cal (evC cprog) true 37 [eBase b, eItems f, .int .i64 (i : Int)] H = some (eIs (pth b.types f i), H) := by
  rw [cal_of at37]
  have hfl := hr.len
  obtain ⟨K, hK⟩ : ∃ K : Heap, K = H ++ [bBase b] := ⟨_, rfl⟩
  have kl : K.length = H.length + 1 := by rw [hK]; simp
  have kt : ∀ Z, (K ++ Z).take H.length = H := fun Z => by rw [hK]; simp
  have kb : ∀ Z, (K ++ Z)[H.length]? = some (bBase b) := fun Z => by rw [hK]; simp
  have L := fun (st : St) (hE : keepEnv st.1 [1, 2, 3, 7] = [(1, eItems f), (2, .int .i64 (i : Int)), (3, .ptr H.length 0 4 0 0), (7, .nils)]) (hH : st.2 = K) (z : Option (CX × St)) (hz : itLim (evCode (evC cprog) itLim c37_l0) st = z) =>
    loop_rule (σ := Int × List Int × Heap × AV) (m := [1, 2, 3, 7]) (env := fun s => [(1, eItems f), (2, .int .i64 s.1), (3, .ptr H.length 0 4 0 0), (7, s.2.2.2)]) (hp := fun s => K ++ s.2.2.1)
    (P := fun _ r => ∃ T X rv, r = (.exit 0, T, K ++ X) ∧ keepEnv T [7] = [(7, rv)] ∧ Out K.length 1 3 X rv ((pth b.types f i).reverse.map rI))
    (mu := fun s => (s.1 + 1).toNat) (I := fun s => Walks b f i s.1 s.2.1 ∧ Out K.length 1 3 s.2.2.1 s.2.2.2 (s.2.1.reverse.map rI)) (evCode (evC cprog) itLim c37_l0) (by
      intro ⟨c, acc, X, rv⟩ ⟨w, hO⟩ E hE
      simp only at w hO hE ⊢
      have h1 := w.lo
      have h2 := w.hi
      have h3 := w.len
      by_cases hc : 0 ≤ c
      · obtain ⟨c, rfl⟩ : ∃ k : Nat, c = (k : Int) := ⟨c.toNat, by omega⟩
        have h102 := fun H => f33 b f hr c (by omega) H
        have w2 := w.step
        obtain ⟨rv1, X1, a1, t1, O1⟩ := (hO.more [⟨0, true, 3, 1, [[.int .i64 (c : Int)]]⟩]).app K rfl 8 (.ref (K.length + X.length) 0 1 0 1) [rI (c : Int)] (by simp [srcRows, rowsOf, curBlk, ← List.append_assoc, rI]) (by simp [rI]) (by simp [reach]; omega)
        have hra : acc.reverse.map rI ++ [rI (c : Int)] = ((c : Int) :: acc).reverse.map rI := by simp
        rw [hra] at O1
        simp only [bBase] at kb
        simp only [eBase] at h102
        have hpl := par_lt b.types f c
        simp only [c37_l0, hE, hc, kb, h102, a1, t1, evX, Int.reduceEq, Int.reduceLT, Int.reduceLE, Nat.reduceMul, Nat.reduceMod, evW, fn_eq, evR, Nat.reduceAdd, Nat.reduceLT, Nat.reduceLeDiff, reduceIte, Nat.reduceEqDiff, reduceCtorEq, argEnv, eq_self, if_true, if_false]
        exact q_next (par b.types f c, (c : Int) :: acc, X1, rv1) (by rfl) rfl ⟨w2, O1⟩ (by simp only; omega) fun r h => h
      · simp only [c37_l0, hE, hc, evX, Int.reduceEq, Int.reduceLT, Int.reduceLE, Nat.reduceMul, Nat.reduceMod, evW, fn_eq, evR, Nat.reduceAdd, Nat.reduceLT, Nat.reduceLeDiff, reduceIte, Nat.reduceEqDiff, reduceCtorEq, argEnv, eq_self, if_true, if_false]
        rw [w.last (by omega)] at hO
        exact q_exit ⟨_, X, rv, rfl, by rfl, hO⟩) ((i : Int), [], [], .nils) st ⟨⟨by omega, by omega, by rw [pthI_nat, List.append_nil], by simp; omega⟩, .nils ..⟩ hE (by simpa using hH) z hz
  simp only [c37, eBase, evX, Int.reduceEq, Int.reduceLT, Int.reduceLE, Nat.reduceMul, Nat.reduceMod, evW, fn_eq, evR, Nat.reduceAdd, Nat.reduceLT, Nat.reduceLeDiff, reduceIte, Nat.reduceEqDiff, reduceCtorEq, argEnv, eq_self, if_true, if_false]
  generalize hz : itLim _ _ = z
  obtain ⟨_, rfl, T, X, rv, rfl, hT, hO⟩ := L _ (by rfl) (by rw [hK]; rfl) z hz
  clear hz L
  have hne : pth b.types f i ≠ [] := fun e => by have := pth_self b.types f i; rw [e] at this; cases this
  have hpl : (pth b.types f i).length ≤ 1000 := by
    have := anc_len (pts b.types f) i i (Nat.le_refl _)
    have e : (pth b.types f i).length ≤ i + 1 := this
    omega
  have hp0 := List.length_pos_iff.2 hne
  generalize pth b.types f i = l at *
  rcases hO with ⟨h1, _⟩ | ⟨_, j, v, rfl, hXj⟩
  · exact absurd (by simpa using h1) hne
  have hat : (K ++ X)[K.length + j]? = some ⟨v, true, 3, 1, l.reverse.map rI⟩ := by rw [at_app]; exact hXj
  have h103 := f58 (K ++ X) (K.length + j) v l.reverse hat (by simpa using hp0) (by simpa using hpl)
  have hbl := (List.getElem?_eq_some_iff.1 hat).1
  rw [List.reverse_reverse] at h103
  simp only [List.length_reverse] at h103
  simp only [List.length_map, List.length_reverse] at hT
  have hfz : ∃ ids, fz ((K ++ X).set (K.length + j) ⟨v, true, 3, 1, l.map rI⟩) fzDepth (.ref (K.length + j) v 1 0 l.length) = some (eIs l, ids) ∧ ∀ x ∈ ids, x = K.length + j :=
    fz_blk (k := ⟨v, true, 3, 1, l.map rI⟩) (by simp only [curBlk, List.getElem?_set_self hbl]; rfl) (rows := l.map rI) (by show (l.map rI).take l.length = _; rw [List.take_of_length_le (by simp)]) (fun r hr a ha => by
      obtain ⟨x, _, rfl⟩ := List.mem_map.1 hr
      simp only [rI, List.mem_cons, List.not_mem_nil, or_false] at ha
      subst ha; exact ⟨rfl, fun _ _ => rfl⟩) 6
  obtain ⟨ids, g1, g2⟩ := hfz
  have ht : ((K ++ X).set (K.length + j) ⟨v, true, 3, 1, l.map rI⟩).take H.length = H := by rw [List.take_set_of_le (by omega)]; exact kt X
  generalize (K ++ X).set (K.length + j) ⟨v, true, 3, 1, l.map rI⟩ = Z at *
  simp only [hT, h103, evX, Int.reduceEq, Int.reduceLT, Int.reduceLE, Nat.reduceMul, Nat.reduceMod, evW, fn_eq, evR, Nat.reduceAdd, Nat.reduceLT, Nat.reduceLeDiff, reduceIte, Nat.reduceEqDiff, reduceCtorEq, argEnv, eq_self, if_true, if_false]
  exact frz_one g1 rfl ht (fun k hk => by have := g2 k hk; omega)
theorem f38 (b : Base) (f : List Item) (hr : Right b f) (i : Nat) (hi : i < f.length) (H : Heap) : cal (evC cprog) true 38 [eBase b, eItems f, .int .i64 (i : Int)] H = some (eIs (pth b.types f i), H) := by
  rw [cal_of at38]
  have hfl := hr.len
  obtain ⟨K, hK⟩ : ∃ K : Heap, K = H ++ [bBase b] := ⟨_, rfl⟩
  have kl : K.length = H.length + 1 := by rw [hK]; simp
  have kt : ∀ Z, (K ++ Z).take H.length = H := fun Z => by rw [hK]; simp
  have kb : ∀ Z, (K ++ Z)[H.length]? = some (bBase b) := fun Z => by rw [hK]; simp
  have L := fun (st : St) (hE : keepEnv st.1 [1, 2, 3, 7] = [(1, eItems f), (2, .int .i64 (i : Int)), (3, .ptr H.length 0 4 0 0), (7, .nils)]) (hH : st.2 = K) (z : Option (CX × St)) (hz : itLim (evCode (evC cprog) itLim c38_l0) st = z) =>
    loop_rule (σ := Int × List Int × Heap × AV) (m := [1, 2, 3, 7]) (env := fun s => [(1, eItems f), (2, .int .i64 s.1), (3, .ptr H.length 0 4 0 0), (7, s.2.2.2)]) (hp := fun s => K ++ s.2.2.1)
    (P := fun _ r => ∃ T X rv, r = (.exit 0, T, K ++ X) ∧ keepEnv T [7] = [(7, rv)] ∧ Out K.length 1 3 X rv ((pth b.types f i).map rI))
    (mu := fun s => (s.1 + 1).toNat) (I := fun s => Walks b f i s.1 s.2.1 ∧ Out K.length 1 3 s.2.2.1 s.2.2.2 (s.2.1.map rI)) (evCode (evC cprog) itLim c38_l0) (by
      intro ⟨c, acc, X, rv⟩ ⟨w, hO⟩ E hE
      simp only at w hO hE ⊢
      have h1 := w.lo
      have h2 := w.hi
      have h3 := w.len
      by_cases hc : 0 ≤ c
      · obtain ⟨c, rfl⟩ : ∃ k : Nat, c = (k : Int) := ⟨c.toNat, by omega⟩
        have h82 := fun H => f34r b f hr c (by omega) H
        have w2 := w.step
        have hnew : Out K.length 1 3 (X ++ [⟨0, true, 3, 1, [[.int .i64 (c : Int)]]⟩]) (.ref (K.length + X.length) 0 1 0 1) [[.int .i64 (c : Int)]] := .inr ⟨by simp, X.length, 0, rfl, by simp⟩
        obtain ⟨rv1, X1, a1, t1, O1⟩ := hnew.app K rfl 8 rv (acc.map rI) (out_src_more hO K rfl _) (rI_rows acc) (by simp [reach]; omega)
        have hra : [[AV.int .i64 (c : Int)]] ++ acc.map rI = ((c : Int) :: acc).map rI := by simp [rI]
        rw [hra] at O1
        simp only [bBase] at kb
        simp only [eBase] at h82
        have hpl := par_lt b.types f c
        simp only [c38_l0, hE, hc, kb, h82, a1, t1, evX, Int.reduceEq, Int.reduceLT, Int.reduceLE, Nat.reduceMul, Nat.reduceMod, evW, fn_eq, evR, Nat.reduceAdd, Nat.reduceLT, Nat.reduceLeDiff, reduceIte, Nat.reduceEqDiff, reduceCtorEq, argEnv, eq_self, if_true, if_false]
        exact q_next (par b.types f c, (c : Int) :: acc, X1, rv1) (by rfl) rfl ⟨w2, O1⟩ (by simp only; omega) fun r h => h
      · simp only [c38_l0, hE, hc, evX, Int.reduceEq, Int.reduceLT, Int.reduceLE, Nat.reduceMul, Nat.reduceMod, evW, fn_eq, evR, Nat.reduceAdd, Nat.reduceLT, Nat.reduceLeDiff, reduceIte, Nat.reduceEqDiff, reduceCtorEq, argEnv, eq_self, if_true, if_false]
        rw [w.last (by omega)] at hO
        exact q_exit ⟨_, X, rv, rfl, by rfl, hO⟩) ((i : Int), [], [], .nils) st ⟨⟨by omega, by omega, by rw [pthI_nat, List.append_nil], by simp; omega⟩, .nils ..⟩ hE (by simpa using hH) z hz
  simp only [c38, eBase, evX, Int.reduceEq, Int.reduceLT, Int.reduceLE, Nat.reduceMul, Nat.reduceMod, evW, fn_eq, evR, Nat.reduceAdd, Nat.reduceLT, Nat.reduceLeDiff, reduceIte, Nat.reduceEqDiff, reduceCtorEq, argEnv, eq_self, if_true, if_false]
  generalize hz : itLim _ _ = z
  obtain ⟨_, rfl, T, X, rv, rfl, hT, hO⟩ := L _ (by rfl) (by rw [hK]; rfl) z hz
  clear hz L
  obtain ⟨ids, g1, g2, g3⟩ := fz_out' hO K rfl (plain_ints _)
  have ht := kt X
  have hsc := out_tup hO
  generalize K ++ X = Z at *
  simp only [hT, hsc, evX, Int.reduceEq, Int.reduceLT, Int.reduceLE, Nat.reduceMul, Nat.reduceMod, evW, fn_eq, evR, Nat.reduceAdd, Nat.reduceLT, Nat.reduceLeDiff, reduceIte, Nat.reduceEqDiff, reduceCtorEq, argEnv, eq_self, if_true, if_false]
  exact frz_one g1 g3 ht (fun k hk => by have := g2 k hk; omega)
end Go.Proofs.YtcbmakanokmdjaaDoor.Code

/- plain: full keys, of the program and of the document. -/
set_option linter.unusedSimpArgs false
set_option linter.unusedVariables false
namespace Go.Proofs.YtcbmakanokmdjaaDoor.Code
open Go.Proofs.YtcbmakanokmdjaaDoor.Ev

/-- the key of an item -/
def keyA (b : Base) (f : List Item) (k : Int) : ByteArray := keyOf (tyOf b.types (typ f k)) (dat f k)
/-- the keys on the path of an item -/
def fkL (b : Base) (f : List Item) (i : Nat) : List ByteArray := (pth b.types f i).map (keyA b f)
theorem keyOf_size {t : Ty} (ht : tyOk t = true) (d : ByteArray) : (keyOf t d).size ≤ 40 := by
  by_cases h0 : t.key < 0
  · simp only [keyOf, h0, if_true]
    exact Nat.zero_le _
  · obtain ⟨m, k, g1, g2, g3, g4, g5, g6⟩ := key_in ht (by omega)
    have : ¬ (m : Int) < 0 := by omega
    simp only [keyOf, g1, this, if_false, Int.toNat_natCast, g2]
    rw [ByteArray.size_extract]
    omega
theorem fk_at {b : Base} {f : List Item} (hr : Right b f) {i : Nat} (hi : i < f.length) {a : Int} (ha : a ∈ pth b.types f i) :
    ∃ (j : Nat) (x : Item) (k : Nat) (t : Ty), a = (j : Int) ∧ j ≤ i ∧ f[j]? = some x ∧ x.type = (k : Int) ∧ b.types[k]? = some t ∧ tyOk t = true ∧ t.min ≤ x.data.size ∧ keyA b f a = keyOf t x.data := by
  have hb := pth_bound ha
  obtain ⟨j, rfl⟩ : ∃ j : Nat, a = (j : Int) := ⟨a.toNat, by omega⟩
  obtain ⟨x, k, t, h1, h2, h3, h4, h5, h6, _⟩ := hr.item (show j < f.length by omega)
  refine ⟨j, x, k, t, rfl, by omega, h1, h2, h4, h5, h6, ?_⟩
  have hd : dat f (j : Int) = x.data := by simp [dat, h1]
  rw [keyA, typ_at h1, h2, tyOf_at h4, hd]
theorem fk_len {b : Base} {f : List Item} (hr : Right b f) {i : Nat} (hi : i < f.length) : (pth b.types f i).length ≤ 5 := by
  obtain ⟨x, k, t, h1, h2, h3, _⟩ := hr.item hi
  rw [pth_len hr i i (Nat.le_refl _) hi, typ_at h1, h2, Int.toNat_natCast]
  exact (anc_len8 hr h3).1
theorem fk_size {b : Base} {f : List Item} (hr : Right b f) {i : Nat} (hi : i < f.length) : ∀ s ∈ fkL b f i, s.size ≤ 1000 := by
  intro s hs
  obtain ⟨a, ha, rfl⟩ := List.mem_map.1 hs
  obtain ⟨_, x, _, t, _, _, _, _, _, h5, _, h7⟩ := fk_at hr hi ha
  rw [h7]
  have := keyOf_size h5 x.data
  omega
def fkG (b : Base) (f : List Item) (_ : Nat) (a : Int) : List ByteArray := [keyA b f a]
theorem fkG_map (b : Base) (f : List Item) : ∀ (l : List Int) (k : Nat), gath (fkG b f) k l = l.map (keyA b f)
  | [], _ => rfl
  | a :: l, k => by rw [gath, fkG_map b f l (k + 1)]; rfl
theorem out_slS {n ty : Nat} {X : Heap} {rv : AV} {l : List ByteArray} (h : Out n 1 ty X rv (l.map rS)) (H0 : Heap) (hn : n = H0.length) : SlAt (H0 ++ X) 1 rv (l.map rS) := out_slat h H0 hn fun r hr => by obtain ⟨_, _, rfl⟩ := List.mem_map.1 hr; rfl
set_option maxHeartbeats 4000000 in
theorem f28 (b : Base) (f : List Item) (hr : Right b f) (i : Nat) (hi : i < f.length) (H : Heap) : cal (evC cprog) true 28 [eBase b, eItems f, .int .i64 (i : Int)] H = some (eU (keyU (fkL b f i)), H) := by
  rw [cal_of at28]
  have h37 := f37 b f hr i hi
  simp only [eBase] at h37
  have hpl := fk_len hr hi
  have hlen := (sIs [] (pth b.types f i)).len
  simp only [List.length_map] at hlen
  obtain ⟨K, hK⟩ : ∃ K : Heap, K = H ++ [bBase b] := ⟨_, rfl⟩
  have kl : K.length = H.length + 1 := by rw [hK]; simp
  have kt : ∀ Z, (K ++ Z).take H.length = H := fun Z => by rw [hK]; simp
  have kb : ∀ Z, (K ++ Z)[H.length]? = some (bBase b) := fun Z => by rw [hK]; simp
  simp only [bBase] at kb
  have L := fun (st : St) (hE : keepEnv st.1 [1, 3, 7, 13, 14, 15] = [(1, eItems f), (3, .ptr H.length 0 4 0 0), (7, .nils), (13, eIs (pth b.types f i)), (14, .int .i64 ((pth b.types f i).length : Int)), (15, .int .i64 0)]) (hH : st.2 = K) (z : Option (CX × St)) (hz : itLim (evCode (evC cprog) itLim c28_l0) st = z) =>
    gath_rule (pth b.types f i) (fkG b f) rS [1, 3, 7, 13, 14, 15] (fun j rv => [(1, eItems f), (3, .ptr H.length 0 4 0 0), (7, rv), (13, eIs (pth b.types f i)), (14, .int .i64 ((pth b.types f i).length : Int)), (15, .int .i64 (j : Int))]) K 1 9 (evCode (evC cprog) itLim c28_l0) 0 [7] (fun rv => [(7, rv)])
    (fun j a hx E X rv hE hO => by
      have hlt : j < (pth b.types f i).length := (List.getElem?_eq_some_iff.1 hx).1
      have hj : (j : Int) < ((pth b.types f i).length : Int) := by omega
      have hw := wrapS hlt (by omega)
      have hai := aI hx
      obtain ⟨n, x, k, t, rfl, hni, h1, h2, h3, h4, h5, h6⟩ := fk_at hr hi (List.mem_of_getElem? hx)
      have ha := aItem h1
      have hat := aTy h3
      rw [← h2] at hat
      have h48 := f48 t h4 x.data h5
      simp only [rTy] at h48
      have hgl := gath_len (fkG b f) (fun i x => by simp [fkG]) ((pth b.types f i).take j) 0
      rw [List.length_take] at hgl
      obtain ⟨rv1, X1, a1, a2, a3, _⟩ := app_row hO K rfl 16 (rS (keyOf t x.data)) rfl (by simp only [List.length_map, reach]; omega)
      simp only [rS] at a1
      simp only [c28_l0, hE, hj, hai, rI, ha, rItem, hat, rTy, kb, h48, a1, a2, hw, evX, Int.reduceEq, Int.reduceLT, Int.reduceLE, Nat.reduceMul, Nat.reduceMod, evW, fn_eq, evR, Nat.reduceAdd, Nat.reduceLT, Nat.reduceLeDiff, reduceIte, Nat.reduceEqDiff, reduceCtorEq, argEnv, eq_self, if_true, if_false]
      exact ⟨_, _, _, rfl, by rfl, by simpa [fkG, h6, rS] using a3⟩)
    (fun E X rv hE => by
      simp only [c28_l0, hE, Int.lt_irrefl, evX, Int.reduceEq, Int.reduceLT, Int.reduceLE, Nat.reduceMul, Nat.reduceMod, evW, fn_eq, evR, Nat.reduceAdd, Nat.reduceLT, Nat.reduceLeDiff, reduceIte, Nat.reduceEqDiff, reduceCtorEq, argEnv, eq_self, if_true, if_false]
      exact ⟨_, rfl, by rfl⟩) st [] .nils (.nils ..) hE (by simpa using hH) z hz
  simp only [c28, eBase, h37, hlen, evX, Int.reduceEq, Int.reduceLT, Int.reduceLE, Nat.reduceMul, Nat.reduceMod, evW, fn_eq, evR, Nat.reduceAdd, Nat.reduceLT, Nat.reduceLeDiff, reduceIte, Nat.reduceEqDiff, reduceCtorEq, argEnv, eq_self, if_true, if_false]
  generalize hz : itLim _ _ = z
  obtain ⟨T, X, rv, rfl, hT, hO⟩ := L _ (by rfl) (by rw [hK]; rfl) z hz
  clear hz L
  rw [fkG_map] at hO
  have h49 := f49 rv (fkL b f i) (by simp only [fkL, List.length_map]; omega) (fk_size hr hi) (K ++ X) (out_slS hO K rfl)
  have ht := kt X
  have hsc := out_tup hO
  generalize K ++ X = Z at *
  simp only [hT, hsc, h49, evX, Int.reduceEq, Int.reduceLT, Int.reduceLE, Nat.reduceMul, Nat.reduceMod, evW, fn_eq, evR, Nat.reduceAdd, Nat.reduceLT, Nat.reduceLeDiff, reduceIte, Nat.reduceEqDiff, reduceCtorEq, argEnv, eq_self, if_true, if_false]
  exact frz_one (ids := []) rfl rfl ht (by simp)
set_option maxHeartbeats 4000000 in
theorem f30 (b : Base) (f : List Item) (hr : Right b f) (i : Nat) (hi : i < f.length) (H : Heap) : cal (evC cprog) true 30 [eBase b, eItems f, .int .i64 (i : Int)] H = some (eU (keyU (fkL b f i)), H) := by
  rw [cal_of at30]
  have h38 := f38 b f hr i hi
  simp only [eBase] at h38
  have hpl := fk_len hr hi
  have hlen := (sIs [] (pth b.types f i)).len
  simp only [List.length_map] at hlen
  obtain ⟨K, hK⟩ : ∃ K : Heap, K = H ++ [bBase b] := ⟨_, rfl⟩
  have kl : K.length = H.length + 1 := by rw [hK]; simp
  have kt : ∀ Z, (K ++ Z).take H.length = H := fun Z => by rw [hK]; simp
  have kb : ∀ Z, (K ++ Z)[H.length]? = some (bBase b) := fun Z => by rw [hK]; simp
  simp only [bBase] at kb
  have L := fun (st : St) (hE : keepEnv st.1 [1, 3, 7, 8, 9] = [(1, eItems f), (3, .ptr H.length 0 4 0 0), (7, .nils), (8, eIs (pth b.types f i)), (9, .int .i64 0)]) (hH : st.2 = K) (z : Option (CX × St)) (hz : itLim (evCode (evC cprog) itLim c30_l0) st = z) =>
    gath_rule (pth b.types f i) (fkG b f) rS [1, 3, 7, 8, 9] (fun j rv => [(1, eItems f), (3, .ptr H.length 0 4 0 0), (7, rv), (8, eIs (pth b.types f i)), (9, .int .i64 (j : Int))]) K 1 9 (evCode (evC cprog) itLim c30_l0) 0 [7] (fun rv => [(7, rv)])
    (fun j a hx E X rv hE hO => by
      have hlt : j < (pth b.types f i).length := (List.getElem?_eq_some_iff.1 hx).1
      have hj : (j : Int) < ((pth b.types f i).length : Int) := by omega
      have hw := wrapS hlt (by omega)
      have hai := aI hx
      obtain ⟨n, x, k, t, rfl, hni, h1, h2, h3, h4, h5, h6⟩ := fk_at hr hi (List.mem_of_getElem? hx)
      have ha := aItem h1
      have h50 := f50 b x k t h2 h3 h4 h5
      simp only [eBase, rItem] at h50
      have hgl := gath_len (fkG b f) (fun i x => by simp [fkG]) ((pth b.types f i).take j) 0
      rw [List.length_take] at hgl
      obtain ⟨rv1, X1, a1, a2, a3, _⟩ := app_row hO K rfl 16 (rS (keyOf t x.data)) rfl (by simp only [List.length_map, reach]; omega)
      simp only [rS] at a1
      simp only [c30_l0, hE, hj, hlen, hai, rI, ha, rItem, kb, h50, a1, a2, hw, evX, Int.reduceEq, Int.reduceLT, Int.reduceLE, Nat.reduceMul, Nat.reduceMod, evW, fn_eq, evR, Nat.reduceAdd, Nat.reduceLT, Nat.reduceLeDiff, reduceIte, Nat.reduceEqDiff, reduceCtorEq, argEnv, eq_self, if_true, if_false]
      exact ⟨_, _, _, rfl, by rfl, by simpa [fkG, h6, rS] using a3⟩)
    (fun E X rv hE => by
      simp only [c30_l0, hE, hlen, Int.lt_irrefl, evX, Int.reduceEq, Int.reduceLT, Int.reduceLE, Nat.reduceMul, Nat.reduceMod, evW, fn_eq, evR, Nat.reduceAdd, Nat.reduceLT, Nat.reduceLeDiff, reduceIte, Nat.reduceEqDiff, reduceCtorEq, argEnv, eq_self, if_true, if_false]
      exact ⟨_, rfl, by rfl⟩) st [] .nils (.nils ..) hE (by simpa using hH) z hz
  simp only [c30, eBase, h38, evX, Int.reduceEq, Int.reduceLT, Int.reduceLE, Nat.reduceMul, Nat.reduceMod, evW, fn_eq, evR, Nat.reduceAdd, Nat.reduceLT, Nat.reduceLeDiff, reduceIte, Nat.reduceEqDiff, reduceCtorEq, argEnv, eq_self, if_true, if_false]
  generalize hz : itLim _ _ = z
  obtain ⟨T, X, rv, rfl, hT, hO⟩ := L _ (by rfl) (by rw [hK]; rfl) z hz
  clear hz L
  rw [fkG_map] at hO
  have h51 := f51 rv (fkL b f i) (by simp only [fkL, List.length_map]; omega) (fk_size hr hi) (K ++ X) (out_slS hO K rfl)
  have ht := kt X
  have hsc := out_tup hO
  generalize K ++ X = Z at *
  simp only [hT, hsc, h51, evX, Int.reduceEq, Int.reduceLT, Int.reduceLE, Nat.reduceMul, Nat.reduceMod, evW, fn_eq, evR, Nat.reduceAdd, Nat.reduceLT, Nat.reduceLeDiff, reduceIte, Nat.reduceEqDiff, reduceCtorEq, argEnv, eq_self, if_true, if_false]
  exact frz_one (ids := []) rfl rfl ht (by simp)
end Go.Proofs.YtcbmakanokmdjaaDoor.Code

/- slices.DeleteFunc on a slice of numbers of its own; children as a slice that may be written. -/
set_option linter.unusedSimpArgs false
set_option linter.unusedVariables false
namespace Go.Proofs.YtcbmakanokmdjaaDoor.Code
open Go.Proofs.YtcbmakanokmdjaaDoor.Ev

end Go.Proofs.YtcbmakanokmdjaaDoor.Code

/- plain: Parent, End, Path and FullKey, of the program and of the document. -/
set_option linter.unusedSimpArgs false
set_option linter.unusedVariables false
namespace Go.Proofs.YtcbmakanokmdjaaDoor.Code
open Go.Proofs.YtcbmakanokmdjaaDoor.Ev

theorem right_err {b : Base} {f : List Item} (R : Right b f) {i : Nat} (hi : i < f.length) : errF b f [(i : Int)] = 0 := by
  unfold errF
  rw [if_pos R.valid, if_pos R.forest, if_neg]
  simp [outOf]
  omega
theorem errF_at {b : Base} (hb : b.Ok) {f : List Item} {i : Int} (he : errF b f [i] = 0) : Right b f ∧ ∃ j : Nat, i = (j : Int) ∧ j < f.length := by
  obtain ⟨hr, ho⟩ := errF_zero hb he
  obtain ⟨h0, h1⟩ := ho i (by simp)
  exact ⟨hr, i.toNat, by omega, by omega⟩
noncomputable def keyV (b : Base) (f : List Item) (i : Int) : List UInt8 := if errF b f [i] = 0 then keyU (fkL b f i.toNat) else []
theorem f11 (b : Base) (hb : b.Ok) (f : List Item) (hfl : f.length < 9223372036854775807) (i : Int) (H : Heap) : cal (evC cprog) true 11 [eBase b, eItems f, .int .i64 i] H = some (.tup [eU (keyV b f i), .int .i64 (errF b f [i])], H) := by
  rw [cal_of at11]
  have h26 := f26 b hb f (.ref (H.length + 1) 0 1 0 1) rfl [i] (by simp) (H ++ [bBase b, bI i]) (one_slat H i [bBase b])
  simp only [eBase, bBase, bI] at h26
  by_cases he : errF b f [i] = 0
  · obtain ⟨hr, j, rfl, hj⟩ := errF_at hb he
    have hc := fun K => f28 b f hr j hj K
    simp only [eBase] at hc
    have hv : keyV b f (j : Int) = _ := if_pos he
    rw [Int.toNat_natCast] at hv
    rw [hv, he]
    rw [he] at h26
    simp only [c11, eBase, h26, hc, evX, Int.reduceEq, Int.reduceLT, Int.reduceLE, Nat.reduceMul, Nat.reduceMod, evW, fn_eq, evR, Nat.reduceAdd, Nat.reduceLT, Nat.reduceLeDiff, reduceIte, Nat.reduceEqDiff, reduceCtorEq, argEnv, eq_self, if_true, if_false]
    exact frz_two (ids := []) rfl rfl (by simp) (by simp) _ _
  · have hv : keyV b f i = [] := if_neg he
    rw [hv]
    simp only [c11, eBase, h26, he, evX, Int.reduceEq, Int.reduceLT, Int.reduceLE, Nat.reduceMul, Nat.reduceMod, evW, fn_eq, evR, Nat.reduceAdd, Nat.reduceLT, Nat.reduceLeDiff, reduceIte, Nat.reduceEqDiff, reduceCtorEq, argEnv, eq_self, if_true, if_false]
    exact frz_two (fz_nils _) rfl (by simp) (by simp) _ _
end Go.Proofs.YtcbmakanokmdjaaDoor.Code

/- plain: children as a slice that may be written; Children of the program. -/
set_option linter.unusedSimpArgs false
set_option linter.unusedVariables false
namespace Go.Proofs.YtcbmakanokmdjaaDoor.Code
open Go.Proofs.YtcbmakanokmdjaaDoor.Ev

end Go.Proofs.YtcbmakanokmdjaaDoor.Code

/- plain: Children and Roots, of the program. -/
set_option linter.unusedSimpArgs false
set_option linter.unusedVariables false
namespace Go.Proofs.YtcbmakanokmdjaaDoor.Code
open Go.Proofs.YtcbmakanokmdjaaDoor.Ev

end Go.Proofs.YtcbmakanokmdjaaDoor.Code

/- plain: the document's Children; Roots of both; lists of numbers that are the same. -/
set_option linter.unusedSimpArgs false
set_option linter.unusedVariables false
namespace Go.Proofs.YtcbmakanokmdjaaDoor.Code
open Go.Proofs.YtcbmakanokmdjaaDoor.Ev

theorem f9 (l : List Int) (hl : l.length < 9223372036854775807) (H : Heap) : cal (evC cprog) false 9 [eIs l, eIs l] H = some (.bool true, H) := by
  rw [cal_of at9]
  have hlen := (sIs [] l).len
  simp only [List.length_map] at hlen
  simp only [c9, hlen, evX, Int.reduceEq, Int.reduceLT, Int.reduceLE, Nat.reduceMul, Nat.reduceMod, evW, fn_eq, evR, Nat.reduceAdd, Nat.reduceLT, Nat.reduceLeDiff, reduceIte, Nat.reduceEqDiff, reduceCtorEq, argEnv, eq_self, if_true, if_false]
  generalize hz : itLim _ _ = z
  have L := all_rule l (fun _ => true) [0, 1, 5] (fun i => [(0, eIs l), (1, eIs l), (5, .int .i64 (i : Int))]) H [] (evCode (evC cprog) itLim c9_l0) (fun c T => c = .exit 0) (fun c T => False)
    (fun i x hx E G hE => by
      have hlt : i < l.length := (List.getElem?_eq_some_iff.1 hx).1
      have hi : (i : Int) < (l.length : Int) := by omega
      have ha := aI hx
      have hw := wrapS hlt hl
      simp only [c9_l0, hE, hi, hlen, ha, rI, hw, evX, Int.reduceEq, Int.reduceLT, Int.reduceLE, Nat.reduceMul, Nat.reduceMod, evW, fn_eq, evR, Nat.reduceAdd, Nat.reduceLT, Nat.reduceLeDiff, reduceIte, Nat.reduceEqDiff, reduceCtorEq, argEnv, eq_self, if_true, if_false]
      exact Sc.next rfl (by rfl))
    (fun E G hE => by
      simp only [c9_l0, hE, hlen, Int.lt_irrefl, evX, Int.reduceEq, Int.reduceLT, Int.reduceLE, Nat.reduceMul, Nat.reduceMod, evW, fn_eq, evR, Nat.reduceAdd, Nat.reduceLT, Nat.reduceLeDiff, reduceIte, Nat.reduceEqDiff, reduceCtorEq, argEnv, eq_self, if_true, if_false]
      exact .exit (K := []) rfl) _ [] (by rfl) (by simp) z hz
  rcases L with ⟨_, c, T, G, rfl, _, rfl⟩ | ⟨_, c, T, G, rfl, _, hf⟩
  · simp only [evX, Int.reduceEq, Int.reduceLT, Int.reduceLE, Nat.reduceMul, Nat.reduceMod, evW, fn_eq, evR, Nat.reduceAdd, Nat.reduceLT, Nat.reduceLeDiff, reduceIte, Nat.reduceEqDiff, reduceCtorEq, argEnv, eq_self, if_true, if_false]
  · exact hf.elim
end Go.Proofs.YtcbmakanokmdjaaDoor.Code

/- plain: all functions are held, by the kernel's look or by a proof of their own. -/
set_option linter.unusedSimpArgs false
set_option linter.unusedVariables false
namespace Go.Proofs.YtcbmakanokmdjaaDoor.Code
open Go.Proofs.YtcbmakanokmdjaaDoor.Ev

theorem cprog_sound {f : Nat} {c : CFn} (h : cprog f = some c) : okFn Go.Proofs.Tryd.prog f c = true ∨ UserOk Go.Proofs.Tryd.prog f c := by
  rcases cprog_ok h with h | h
  · exact .inl h
  · simp only [utab, List.mem_cons, Prod.mk.injEq, List.not_mem_nil, or_false] at h
    obtain ⟨rfl, rfl⟩ := h
    exact .inr (userRepl rfl rfl rfl rfl)
end Go.Proofs.YtcbmakanokmdjaaDoor.Code

/- The law PlainWays is true. -/
set_option linter.unusedSimpArgs false
set_option linter.unusedVariables false
namespace Go.Proofs.YtcbmakanokmdjaaDoor.Code
open Go.Proofs.YtcbmakanokmdjaaDoor.Ev

end Go.Proofs.YtcbmakanokmdjaaDoor.Code
namespace Go.Proofs.YtcbmakanokmdjaaDoor.Pure
open Go.Proofs.YtcbmakanokmdjaaDoor.Ev Go.Proofs.YtcbmakanokmdjaaDoor.Code
end Go.Proofs.YtcbmakanokmdjaaDoor.Pure

/- plain: keys compared; Find of the program and of the document. -/
set_option linter.unusedSimpArgs false
set_option linter.unusedVariables false
namespace Go.Proofs.YtcbmakanokmdjaaDoor.Code
open Go.Proofs.YtcbmakanokmdjaaDoor.Ev

theorem zip_at {α β : Type} {a : List α} {b : List β} {i : Nat} {z : α × β} (h : (a.zip b)[i]? = some z) : a[i]? = some z.1 ∧ b[i]? = some z.2 := by
  have := List.getElem?_zip_eq_some.1 h
  exact this
theorem u8_cast {x y : UInt8} : (x.toNat : Int) = (y.toNat : Int) ↔ x = y := by
  rw [Int.ofNat_inj]; exact UInt8.toNat_inj
theorem zip_all {a b : List UInt8} (hl : a.length = b.length) : (a.zip b).all (fun z => decide (z.1 = z.2)) = decide (a = b) := by
  induction a generalizing b with
  | nil => cases b with
    | nil => rfl
    | cons => simp at hl
  | cons x a ih => cases b with
    | nil => simp at hl
    | cons y b =>
      simp only [List.zip_cons_cons, List.all_cons, List.cons.injEq]
      rw [ih (by simpa using hl), Bool.decide_and]
theorem f27 (a b : List UInt8) (ha : a.length < 9223372036854775807) (H : Heap) : cal (evC cprog) false 27 [eU a, eU b] H = some (.bool (decide (a = b)), H) := by
  rw [cal_of at27]
  have la := (sU [] a).len
  have lb := (sU [] b).len
  simp only [List.length_map] at la lb
  by_cases hl : a.length = b.length
  · have hl' : (a.length : Int) = (b.length : Int) := by omega
    have hz0 : (a.zip b).length = b.length := by rw [List.length_zip]; omega
    simp only [c27, la, lb, hl', evX, Int.reduceEq, Int.reduceLT, Int.reduceLE, Nat.reduceMul, Nat.reduceMod, evW, fn_eq, evR, Nat.reduceAdd, Nat.reduceLT, Nat.reduceLeDiff, reduceIte, Nat.reduceEqDiff, reduceCtorEq, argEnv, eq_self, if_true, if_false]
    generalize hz : itLim _ _ = z
    have L := all_rule (a.zip b) (fun z => decide (z.1 = z.2)) [0, 1, 12, 13] (fun i => [(0, eU a), (1, eU b), (12, .int .i64 (b.length : Int)), (13, .int .i64 (i : Int))]) H [] (evCode (evC cprog) itLim c27_l0) (fun c T => c = .exit 0) (fun c T => c = .ret ∧ get T 4 = some (.bool false))
      (fun i z hx E G hE => by
        have hlt : i < (a.zip b).length := (List.getElem?_eq_some_iff.1 hx).1
        have hi : (i : Int) < (b.length : Int) := by omega
        obtain ⟨h1, h2⟩ := zip_at hx
        have a1 := aU h1
        have a2 := aU h2
        have hw := wrapS (i := i) (n := b.length) (by omega) (by omega)
        by_cases h : z.1 = z.2
        · have h' : (z.1.toNat : Int) = (z.2.toNat : Int) := u8_cast.2 h
          simp only [c27_l0, hE, hi, a1, a2, rU, h', hw, evX, Int.reduceEq, Int.reduceLT, Int.reduceLE, Nat.reduceMul, Nat.reduceMod, evW, fn_eq, evR, Nat.reduceAdd, Nat.reduceLT, Nat.reduceLeDiff, reduceIte, Nat.reduceEqDiff, reduceCtorEq, argEnv, eq_self, if_true, if_false]
          exact Sc.next (by simp [h]) (by rfl)
        · have h' : ¬ (z.1.toNat : Int) = (z.2.toNat : Int) := fun e => h (u8_cast.1 e)
          simp only [c27_l0, hE, hi, a1, a2, rU, h', evX, Int.reduceEq, Int.reduceLT, Int.reduceLE, Nat.reduceMul, Nat.reduceMod, evW, fn_eq, evR, Nat.reduceAdd, Nat.reduceLT, Nat.reduceLeDiff, reduceIte, Nat.reduceEqDiff, reduceCtorEq, argEnv, eq_self, if_true, if_false]
          exact Sc.ret (by simp [h]) ⟨rfl, rfl⟩)
      (fun E G hE => by
        rw [hz0] at hE
        simp only [c27_l0, hE, Int.lt_irrefl, evX, Int.reduceEq, Int.reduceLT, Int.reduceLE, Nat.reduceMul, Nat.reduceMod, evW, fn_eq, evR, Nat.reduceAdd, Nat.reduceLT, Nat.reduceLeDiff, reduceIte, Nat.reduceEqDiff, reduceCtorEq, argEnv, eq_self, if_true, if_false]
        exact .exit (K := []) rfl) _ [] (by rfl) (by simp) z hz
    rw [zip_all hl] at L
    rcases L with ⟨h, c, T, G, rfl, _, rfl⟩ | ⟨h, c, T, G, rfl, _, rfl, hT⟩
    · simp only [h, evX, Int.reduceEq, Int.reduceLT, Int.reduceLE, Nat.reduceMul, Nat.reduceMod, evW, fn_eq, evR, Nat.reduceAdd, Nat.reduceLT, Nat.reduceLeDiff, reduceIte, Nat.reduceEqDiff, reduceCtorEq, argEnv, eq_self, if_true, if_false]
    · simp only [h, hT, evX, Int.reduceEq, Int.reduceLT, Int.reduceLE, Nat.reduceMul, Nat.reduceMod, evW, fn_eq, evR, Nat.reduceAdd, Nat.reduceLT, Nat.reduceLeDiff, reduceIte, Nat.reduceEqDiff, reduceCtorEq, argEnv, eq_self, if_true, if_false]
  · have hl' : ¬ (a.length : Int) = (b.length : Int) := by omega
    have : ¬ a = b := fun e => hl (by rw [e])
    rw [decide_eq_false this]
    simp only [c27, la, lb, hl', evX, Int.reduceEq, Int.reduceLT, Int.reduceLE, Nat.reduceMul, Nat.reduceMod, evW, fn_eq, evR, Nat.reduceAdd, Nat.reduceLT, Nat.reduceLeDiff, reduceIte, Nat.reduceEqDiff, reduceCtorEq, argEnv, eq_self, if_true, if_false]
theorem f29 (a b : List UInt8) (ha : a.length < 9223372036854775807) (H : Heap) : ∃ c : Int, cal (evC cprog) false 29 [eU a, eU b] H = some (.int .i64 c, H) ∧ (c = 0 ↔ a = b) := by
  rw [cal_of at29]
  have la := (sU [] a).len
  have lb := (sU [] b).len
  simp only [List.length_map] at la lb
  have L := fun (st : St) (hE : keepEnv st.1 [0, 1, 5] = [(0, eU a), (1, eU b), (5, .int .i64 0)]) (hH : st.2 = H) (z : Option (CX × St)) (hz : itLim (evCode (evC cprog) itLim c29_l0) st = z) =>
    all_rule (a.zip b) (fun z => decide (z.1 = z.2)) [0, 1, 5] (fun i => [(0, eU a), (1, eU b), (5, .int .i64 (i : Int))]) H [] (evCode (evC cprog) itLim c29_l0) (fun c T => c = .exit 0 ∧ keepEnv T [0, 1] = [(0, eU a), (1, eU b)]) (fun c T => c = .ret ∧ ∃ n : Int, n ≠ 0 ∧ get T 4 = some (.int .i64 n))
      (fun i z hx E G hE => by
        have hlt : i < (a.zip b).length := (List.getElem?_eq_some_iff.1 hx).1
        rw [List.length_zip] at hlt
        have hi : (i : Int) < (a.length : Int) := by omega
        have hj : (i : Int) < (b.length : Int) := by omega
        obtain ⟨h1, h2⟩ := zip_at hx
        have a1 := aU h1
        have a2 := aU h2
        have hw := wrapS (i := i) (n := a.length) (by omega) (by omega)
        by_cases h : z.1 = z.2
        · have h' : (z.1.toNat : Int) = (z.2.toNat : Int) := u8_cast.2 h
          simp only [c29_l0, hE, hi, hj, la, lb, a1, a2, rU, h', hw, evX, Int.reduceEq, Int.reduceLT, Int.reduceLE, Nat.reduceMul, Nat.reduceMod, evW, fn_eq, evR, Nat.reduceAdd, Nat.reduceLT, Nat.reduceLeDiff, reduceIte, Nat.reduceEqDiff, reduceCtorEq, argEnv, eq_self, if_true, if_false]
          exact Sc.next (by simp [h]) (by rfl)
        · have h' : ¬ (z.1.toNat : Int) = (z.2.toNat : Int) := fun e => h (u8_cast.1 e)
          by_cases hlt2 : (z.1.toNat : Int) < (z.2.toNat : Int)
          · simp only [c29_l0, hE, hi, hj, la, lb, a1, a2, rU, h', hlt2, evX, Int.reduceEq, Int.reduceLT, Int.reduceLE, Nat.reduceMul, Nat.reduceMod, evW, fn_eq, evR, Nat.reduceAdd, Nat.reduceLT, Nat.reduceLeDiff, reduceIte, Nat.reduceEqDiff, reduceCtorEq, argEnv, eq_self, if_true, if_false]
            exact Sc.ret (by simp [h]) ⟨rfl, -1, by decide, rfl⟩
          · simp only [c29_l0, hE, hi, hj, la, lb, a1, a2, rU, h', hlt2, evX, Int.reduceEq, Int.reduceLT, Int.reduceLE, Nat.reduceMul, Nat.reduceMod, evW, fn_eq, evR, Nat.reduceAdd, Nat.reduceLT, Nat.reduceLeDiff, reduceIte, Nat.reduceEqDiff, reduceCtorEq, argEnv, eq_self, if_true, if_false]
            exact Sc.ret (by simp [h]) ⟨rfl, 1, by decide, rfl⟩)
      (fun E G hE => by
        rw [List.length_zip] at hE
        by_cases h : a.length ≤ b.length
        · rw [Nat.min_eq_left h] at hE
          simp only [c29_l0, hE, la, Int.lt_irrefl, evX, Int.reduceEq, Int.reduceLT, Int.reduceLE, Nat.reduceMul, Nat.reduceMod, evW, fn_eq, evR, Nat.reduceAdd, Nat.reduceLT, Nat.reduceLeDiff, reduceIte, Nat.reduceEqDiff, reduceCtorEq, argEnv, eq_self, if_true, if_false]
          exact .exit (K := []) ⟨rfl, by rfl⟩
        · rw [Nat.min_eq_right (by omega)] at hE
          have h1 : (b.length : Int) < (a.length : Int) := by omega
          simp only [c29_l0, hE, la, lb, h1, Int.lt_irrefl, evX, Int.reduceEq, Int.reduceLT, Int.reduceLE, Nat.reduceMul, Nat.reduceMod, evW, fn_eq, evR, Nat.reduceAdd, Nat.reduceLT, Nat.reduceLeDiff, reduceIte, Nat.reduceEqDiff, reduceCtorEq, argEnv, eq_self, if_true, if_false]
          exact .exit (K := []) ⟨rfl, by rfl⟩) st [] hE (by simpa using hH) z hz
  have key : ∀ r, evFn (evC cprog) itLim c29 [eU a, eU b] H = r → ∃ c : Int, calK false H r = some (.int .i64 c, H) ∧ (c = 0 ↔ a = b) := by
    intro r hr
    by_cases l1 : (a.length : Int) < (b.length : Int)
    · have hne : ¬ a = b := fun e => by rw [e] at l1; omega
      rw [← hr]
      simp only [c29, evX, Int.reduceEq, Int.reduceLT, Int.reduceLE, Nat.reduceMul, Nat.reduceMod, evW, fn_eq, evR, Nat.reduceAdd, Nat.reduceLT, Nat.reduceLeDiff, reduceIte, Nat.reduceEqDiff, reduceCtorEq, argEnv, eq_self, if_true, if_false]
      generalize hz : itLim _ _ = z
      rcases L _ (by rfl) rfl z hz with ⟨h, c, T, G, rfl, _, rfl, hT⟩ | ⟨h, c, T, G, rfl, _, rfl, n, hn, hT⟩
      · refine ⟨-1, ?_, by simp [hne]⟩
        simp only [hT, la, lb, l1, evX, Int.reduceEq, Int.reduceLT, Int.reduceLE, Nat.reduceMul, Nat.reduceMod, evW, fn_eq, evR, Nat.reduceAdd, Nat.reduceLT, Nat.reduceLeDiff, reduceIte, Nat.reduceEqDiff, reduceCtorEq, argEnv, eq_self, if_true, if_false]
      · refine ⟨n, ?_, by simp [hne, hn]⟩
        simp only [hT, evX, Int.reduceEq, Int.reduceLT, Int.reduceLE, Nat.reduceMul, Nat.reduceMod, evW, fn_eq, evR, Nat.reduceAdd, Nat.reduceLT, Nat.reduceLeDiff, reduceIte, Nat.reduceEqDiff, reduceCtorEq, argEnv, eq_self, if_true, if_false]
    by_cases l2 : (b.length : Int) < (a.length : Int)
    · have hne : ¬ a = b := fun e => by rw [e] at l2; omega
      rw [← hr]
      simp only [c29, evX, Int.reduceEq, Int.reduceLT, Int.reduceLE, Nat.reduceMul, Nat.reduceMod, evW, fn_eq, evR, Nat.reduceAdd, Nat.reduceLT, Nat.reduceLeDiff, reduceIte, Nat.reduceEqDiff, reduceCtorEq, argEnv, eq_self, if_true, if_false]
      generalize hz : itLim _ _ = z
      rcases L _ (by rfl) rfl z hz with ⟨h, c, T, G, rfl, _, rfl, hT⟩ | ⟨h, c, T, G, rfl, _, rfl, n, hn, hT⟩
      · refine ⟨1, ?_, by simp [hne]⟩
        simp only [hT, la, lb, l1, l2, evX, Int.reduceEq, Int.reduceLT, Int.reduceLE, Nat.reduceMul, Nat.reduceMod, evW, fn_eq, evR, Nat.reduceAdd, Nat.reduceLT, Nat.reduceLeDiff, reduceIte, Nat.reduceEqDiff, reduceCtorEq, argEnv, eq_self, if_true, if_false]
      · refine ⟨n, ?_, by simp [hne, hn]⟩
        simp only [hT, evX, Int.reduceEq, Int.reduceLT, Int.reduceLE, Nat.reduceMul, Nat.reduceMod, evW, fn_eq, evR, Nat.reduceAdd, Nat.reduceLT, Nat.reduceLeDiff, reduceIte, Nat.reduceEqDiff, reduceCtorEq, argEnv, eq_self, if_true, if_false]
    have hl : a.length = b.length := by omega
    rw [← hr]
    rw [zip_all hl] at L
    simp only [c29, evX, Int.reduceEq, Int.reduceLT, Int.reduceLE, Nat.reduceMul, Nat.reduceMod, evW, fn_eq, evR, Nat.reduceAdd, Nat.reduceLT, Nat.reduceLeDiff, reduceIte, Nat.reduceEqDiff, reduceCtorEq, argEnv, eq_self, if_true, if_false]
    generalize hz : itLim _ _ = z
    rcases L _ (by rfl) rfl z hz with ⟨h, c, T, G, rfl, _, rfl, hT⟩ | ⟨h, c, T, G, rfl, _, rfl, n, hn, hT⟩
    · refine ⟨0, ?_, by simp [of_decide_eq_true h]⟩
      simp only [hT, la, lb, l1, l2, evX, Int.reduceEq, Int.reduceLT, Int.reduceLE, Nat.reduceMul, Nat.reduceMod, evW, fn_eq, evR, Nat.reduceAdd, Nat.reduceLT, Nat.reduceLeDiff, reduceIte, Nat.reduceEqDiff, reduceCtorEq, argEnv, eq_self, if_true, if_false]
    · refine ⟨n, ?_, by simp [of_decide_eq_false h, hn]⟩
      simp only [hT, evX, Int.reduceEq, Int.reduceLT, Int.reduceLE, Nat.reduceMul, Nat.reduceMod, evW, fn_eq, evR, Nat.reduceAdd, Nat.reduceLT, Nat.reduceLeDiff, reduceIte, Nat.reduceEqDiff, reduceCtorEq, argEnv, eq_self, if_true, if_false]
  exact key _ rfl
end Go.Proofs.YtcbmakanokmdjaaDoor.Code

/- plain: Find of the program and of the document. -/
set_option linter.unusedSimpArgs false
set_option linter.unusedVariables false
namespace Go.Proofs.YtcbmakanokmdjaaDoor.Code
open Go.Proofs.YtcbmakanokmdjaaDoor.Ev

def findG (b : Base) (f : List Item) (q : List UInt8) (t : Int) (i : Nat) (x : Item) : List Int := if x.type = t ∧ keyU (fkL b f i) = q then [(i : Int)] else []
def findL (b : Base) (f : List Item) (q : List UInt8) (t : Int) : List Int := gath (findG b f q t) 0 f
noncomputable def findE (b : Base) (f : List Item) (t : Int) : Int := if errF b f [] = 0 then (if 0 ≤ t ∧ t < (b.types.length : Int) then 0 else 2) else errF b f []
noncomputable def findV (b : Base) (f : List Item) (q : List UInt8) (t : Int) : List Int := if findE b f t = 0 then findL b f q t else []
theorem findG_len (b : Base) (f : List Item) (q : List UInt8) (t : Int) (l : List Item) : (gath (findG b f q t) 0 l).length ≤ l.length := gath_len _ (fun i x => by unfold findG; split <;> simp) l 0
theorem keyU_small {b : Base} {f : List Item} (hr : Right b f) {i : Nat} (hi : i < f.length) : (keyU (fkL b f i)).length ≤ 20000 := by
  have h1 := keyG_len (fkL b f i) (fk_size hr hi) 0
  have h2 := fk_len hr hi
  simp only [fkL, List.length_map] at h1
  show (gath keyG 0 (fkL b f i)).length ≤ 20000
  simp only [fkL]
  omega
set_option maxHeartbeats 8000000 in
theorem f7 (b : Base) (hb : b.Ok) (f : List Item) (q : List UInt8) (t : Int) (H : Heap) : cal (evC cprog) true 7 [eBase b, eItems f, eU q, .int .i64 t] H = some (.tup [eIs (findV b f q t), .int .i64 (findE b f t)], H) := by
  rw [cal_of at7]
  have h26 := fun K => f26 b hb f .nils rfl [] (by simp) K (nil_slat K)
  have hlt := (sTys [] b.types).len
  have hlf := (sItems [] f).len
  simp only [List.length_map] at hlt hlf
  simp only [eBase] at h26
  by_cases he : errF b f [] = 0
  case neg =>
    have e1 : findE b f t = errF b f [] := if_neg he
    have e2 : findV b f q t = [] := if_neg (by rw [e1]; exact he)
    rw [e1, e2]
    simp only [c7, eBase, h26, he, evX, Int.reduceEq, Int.reduceLT, Int.reduceLE, Nat.reduceMul, Nat.reduceMod, evW, fn_eq, evR, Nat.reduceAdd, Nat.reduceLT, Nat.reduceLeDiff, reduceIte, Nat.reduceEqDiff, reduceCtorEq, argEnv, eq_self, if_true, if_false]
    exact frz_two (fz_nils _) rfl (by simp) (by simp) _ _
  have hr := (errF_zero hb he).1
  have hfr := hr.len
  rw [he] at h26
  by_cases t0 : t < 0
  · have e1 : findE b f t = 2 := by unfold findE; rw [if_pos he, if_neg (by omega)]
    have e2 : findV b f q t = [] := if_neg (by rw [e1]; simp)
    rw [e1, e2]
    simp only [c7, eBase, h26, t0, evX, Int.reduceEq, Int.reduceLT, Int.reduceLE, Nat.reduceMul, Nat.reduceMod, evW, fn_eq, evR, Nat.reduceAdd, Nat.reduceLT, Nat.reduceLeDiff, reduceIte, Nat.reduceEqDiff, reduceCtorEq, argEnv, eq_self, if_true, if_false]
    all_goals exact frz_two (fz_nils _) rfl (by simp) (by simp) _ _
  by_cases t1 : (b.types.length : Int) ≤ t
  · have e1 : findE b f t = 2 := by unfold findE; rw [if_pos he, if_neg (by omega)]
    have e2 : findV b f q t = [] := if_neg (by rw [e1]; simp)
    rw [e1, e2]
    simp only [c7, eBase, h26, t0, t1, hlt, evX, Int.reduceEq, Int.reduceLT, Int.reduceLE, Nat.reduceMul, Nat.reduceMod, evW, fn_eq, evR, Nat.reduceAdd, Nat.reduceLT, Nat.reduceLeDiff, reduceIte, Nat.reduceEqDiff, reduceCtorEq, argEnv, eq_self, if_true, if_false]
    all_goals exact frz_two (fz_nils _) rfl (by simp) (by simp) _ _
  have e1 : findE b f t = 0 := by unfold findE; rw [if_pos he, if_pos (by omega)]
  have e2 : findV b f q t = findL b f q t := if_pos e1
  rw [e1, e2]
  obtain ⟨K, hK⟩ : ∃ K : Heap, K = H ++ [bBase b] := ⟨_, rfl⟩
  have kl : K.length = H.length + 1 := by rw [hK]; simp
  have kt : ∀ Z, (K ++ Z).take H.length = H := fun Z => by rw [hK]; simp
  have kb : ∀ Z, (K ++ Z)[H.length]? = some (bBase b) := fun Z => by rw [hK]; simp
  simp only [bBase] at kb
  have L := fun (st : St) (hE : keepEnv st.1 [1, 2, 3, 4, 11, 31, 32, 33] = [(1, eItems f), (2, eU q), (3, .int .i64 t), (4, .ptr H.length 0 4 0 0), (11, .nils), (31, eItems f), (32, .int .i64 (f.length : Int)), (33, .int .i64 0)]) (hH : st.2 = K) (z : Option (CX × St)) (hz : itLim (evCode (evC cprog) itLim c7_l0) st = z) =>
    gath_rule f (findG b f q t) rI [1, 2, 3, 4, 11, 31, 32, 33] (fun j rv => [(1, eItems f), (2, eU q), (3, .int .i64 t), (4, .ptr H.length 0 4 0 0), (11, rv), (31, eItems f), (32, .int .i64 (f.length : Int)), (33, .int .i64 (j : Int))]) K 1 3 (evCode (evC cprog) itLim c7_l0) 1 [11] (fun rv => [(11, rv)])
    (fun j x hx E X rv hE hO => by
      have hjl : j < f.length := (List.getElem?_eq_some_iff.1 hx).1
      have hj : (j : Int) < (f.length : Int) := by omega
      have hw := wrapS hjl (by omega)
      have ha := aItem hx
      have hO1 := hO.more [⟨0, true, 41, 2, [rItem x]⟩]
      have hgl := findG_len b f q t (f.take j)
      rw [List.length_take] at hgl
      by_cases ht : x.type = t
      · have h28 := fun Z => f28 b f hr j hjl Z
        have h27 := fun Z => f27 (keyU (fkL b f j)) q (by have := keyU_small hr hjl; omega) Z
        simp only [eBase] at h28
        by_cases hk : keyU (fkL b f j) = q
        · have hg : findG b f q t j x = [(j : Int)] := if_pos ⟨ht, hk⟩
          rw [decide_eq_true hk] at h27
          obtain ⟨rv1, X1, a1, a2, a3⟩ := app_int hO1 K rfl (by omega) (j : Int)
          simp only [List.append_assoc, List.cons_append, List.nil_append, rItem, ht, List.length_append, List.length_cons, List.length_nil, Nat.zero_add] at a1
          simp only [c7_l0, hE, hj, ha, rItem, ht, kb, h28, h27, a1, a2, hw, evX, Int.reduceEq, Int.reduceLT, Int.reduceLE, Nat.reduceMul, Nat.reduceMod, evW, fn_eq, evR, Nat.reduceAdd, Nat.reduceLT, Nat.reduceLeDiff, reduceIte, Nat.reduceEqDiff, reduceCtorEq, argEnv, eq_self, if_true, if_false]
          exact ⟨_, _, _, rfl, by rfl, by simpa [hg] using a3⟩
        · have hg : findG b f q t j x = [] := if_neg (fun h => hk h.2)
          rw [decide_eq_false hk] at h27
          rw [hg]
          simp only [c7_l0, hE, hj, ha, rItem, ht, kb, h28, h27, hw, evX, Int.reduceEq, Int.reduceLT, Int.reduceLE, Nat.reduceMul, Nat.reduceMod, evW, fn_eq, evR, Nat.reduceAdd, Nat.reduceLT, Nat.reduceLeDiff, reduceIte, Nat.reduceEqDiff, reduceCtorEq, argEnv, eq_self, if_true, if_false]
          exact ⟨_, _, _, rfl, by rfl, by simpa [rItem, ht] using hO1⟩
      · have hg : findG b f q t j x = [] := if_neg (fun h => ht h.1)
        rw [hg]
        simp only [c7_l0, hE, hj, ha, rItem, ht, hw, evX, Int.reduceEq, Int.reduceLT, Int.reduceLE, Nat.reduceMul, Nat.reduceMod, evW, fn_eq, evR, Nat.reduceAdd, Nat.reduceLT, Nat.reduceLeDiff, reduceIte, Nat.reduceEqDiff, reduceCtorEq, argEnv, eq_self, if_true, if_false]
        exact ⟨_, _, _, rfl, by rfl, by simpa [rItem] using hO1⟩)
    (fun E X rv hE => by
      simp only [c7_l0, hE, Int.lt_irrefl, evX, Int.reduceEq, Int.reduceLT, Int.reduceLE, Nat.reduceMul, Nat.reduceMod, evW, fn_eq, evR, Nat.reduceAdd, Nat.reduceLT, Nat.reduceLeDiff, reduceIte, Nat.reduceEqDiff, reduceCtorEq, argEnv, eq_self, if_true, if_false]
      exact ⟨_, rfl, by rfl⟩) st [] .nils (.nils ..) hE (by simpa using hH) z hz
  simp only [c7, eBase, h26, t0, t1, hlt, hlf, evX, Int.reduceEq, Int.reduceLT, Int.reduceLE, Nat.reduceMul, Nat.reduceMod, evW, fn_eq, evR, Nat.reduceAdd, Nat.reduceLT, Nat.reduceLeDiff, reduceIte, Nat.reduceEqDiff, reduceCtorEq, argEnv, eq_self, if_true, if_false]
  generalize hz : itLim _ _ = z
  obtain ⟨T, X, rv, rfl, hT, hO⟩ := L _ (by rfl) (by rw [hK]; rfl) z hz
  clear hz L
  obtain ⟨ids, g1, g2, g3⟩ := fz_out' hO K rfl (plain_ints _)
  have htk := kt X
  have hsc := out_tup hO
  generalize K ++ X = Z at *
  simp only [hT, hsc, evX, Int.reduceEq, Int.reduceLT, Int.reduceLE, Nat.reduceMul, Nat.reduceMod, evW, fn_eq, evR, Nat.reduceAdd, Nat.reduceLT, Nat.reduceLeDiff, reduceIte, Nat.reduceEqDiff, reduceCtorEq, argEnv, eq_self, if_true, if_false]
  exact frz_two g1 g3 htk (fun k hk => by have := g2 k hk; omega) _ _
set_option maxHeartbeats 8000000 in
theorem f8 (b : Base) (hb : b.Ok) (f : List Item) (hfl : f.length < 9223372036854775807) (q : List UInt8) (t : Int) (H : Heap) : cal (evC cprog) true 8 [eBase b, eItems f, eU q, .int .i64 t] H = some (.tup [eIs (findV b f q t), .int .i64 (findE b f t)], H) := by
  rw [cal_of at8]
  have h10 := fun K => f10 b hb f hfl .nils [] (by simp) K (nil_slat K)
  have hlt := (sTys [] b.types).len
  have hlf := (sItems [] f).len
  simp only [List.length_map] at hlt hlf
  simp only [eBase] at h10
  by_cases he : errF b f [] = 0
  case neg =>
    have e1 : findE b f t = errF b f [] := if_neg he
    have e2 : findV b f q t = [] := if_neg (by rw [e1]; exact he)
    rw [e1, e2]
    simp only [c8, eBase, h10, he, evX, Int.reduceEq, Int.reduceLT, Int.reduceLE, Nat.reduceMul, Nat.reduceMod, evW, fn_eq, evR, Nat.reduceAdd, Nat.reduceLT, Nat.reduceLeDiff, reduceIte, Nat.reduceEqDiff, reduceCtorEq, argEnv, eq_self, if_true, if_false]
    exact frz_two (fz_nils _) rfl (by simp) (by simp) _ _
  have hr := (errF_zero hb he).1
  have hfr := hr.len
  rw [he] at h10
  by_cases t0 : t < 0
  · have e1 : findE b f t = 2 := by unfold findE; rw [if_pos he, if_neg (by omega)]
    have e2 : findV b f q t = [] := if_neg (by rw [e1]; simp)
    rw [e1, e2]
    simp only [c8, eBase, h10, t0, evX, Int.reduceEq, Int.reduceLT, Int.reduceLE, Nat.reduceMul, Nat.reduceMod, evW, fn_eq, evR, Nat.reduceAdd, Nat.reduceLT, Nat.reduceLeDiff, reduceIte, Nat.reduceEqDiff, reduceCtorEq, argEnv, eq_self, if_true, if_false]
    all_goals exact frz_two (fz_nils _) rfl (by simp) (by simp) _ _
  by_cases t1 : (b.types.length : Int) ≤ t
  · have e1 : findE b f t = 2 := by unfold findE; rw [if_pos he, if_neg (by omega)]
    have e2 : findV b f q t = [] := if_neg (by rw [e1]; simp)
    rw [e1, e2]
    simp only [c8, eBase, h10, t0, t1, hlt, evX, Int.reduceEq, Int.reduceLT, Int.reduceLE, Nat.reduceMul, Nat.reduceMod, evW, fn_eq, evR, Nat.reduceAdd, Nat.reduceLT, Nat.reduceLeDiff, reduceIte, Nat.reduceEqDiff, reduceCtorEq, argEnv, eq_self, if_true, if_false]
    all_goals exact frz_two (fz_nils _) rfl (by simp) (by simp) _ _
  have e1 : findE b f t = 0 := by unfold findE; rw [if_pos he, if_pos (by omega)]
  have e2 : findV b f q t = findL b f q t := if_pos e1
  rw [e1, e2]
  obtain ⟨K, hK⟩ : ∃ K : Heap, K = H ++ [bBase b] := ⟨_, rfl⟩
  have kl : K.length = H.length + 1 := by rw [hK]; simp
  have kt : ∀ Z, (K ++ Z).take H.length = H := fun Z => by rw [hK]; simp
  have kb : ∀ Z, (K ++ Z)[H.length]? = some (bBase b) := fun Z => by rw [hK]; simp
  simp only [bBase] at kb
  have L := fun (st : St) (hE : keepEnv st.1 [1, 2, 3, 4, 11, 12] = [(1, eItems f), (2, eU q), (3, .int .i64 t), (4, .ptr H.length 0 4 0 0), (11, .nils), (12, .int .i64 0)]) (hH : st.2 = K) (z : Option (CX × St)) (hz : itLim (evCode (evC cprog) itLim c8_l0) st = z) =>
    gath_rule f (findG b f q t) rI [1, 2, 3, 4, 11, 12] (fun j rv => [(1, eItems f), (2, eU q), (3, .int .i64 t), (4, .ptr H.length 0 4 0 0), (11, rv), (12, .int .i64 (j : Int))]) K 1 3 (evCode (evC cprog) itLim c8_l0) 0 [11] (fun rv => [(11, rv)])
    (fun j x hx E X rv hE hO => by
      have hjl : j < f.length := (List.getElem?_eq_some_iff.1 hx).1
      have hj : (j : Int) < (f.length : Int) := by omega
      have hw := wrapS hjl (by omega)
      have ha := aItem hx
      have hgl := findG_len b f q t (f.take j)
      rw [List.length_take] at hgl
      by_cases ht : x.type = t
      · have h30 := fun Z => f30 b f hr j hjl Z
        obtain ⟨c, h29, hc⟩ := f29 (keyU (fkL b f j)) q (by have := keyU_small hr hjl; omega) (K ++ X)
        simp only [eBase] at h30
        by_cases hk : keyU (fkL b f j) = q
        · have hg : findG b f q t j x = [(j : Int)] := if_pos ⟨ht, hk⟩
          rw [hc.2 hk] at h29
          obtain ⟨rv1, X1, a1, a2, a3⟩ := app_int hO K rfl (by omega) (j : Int)
          simp only [c8_l0, hE, hj, hlf, ha, rItem, ht, kb, h30, h29, a1, a2, hw, evX, Int.reduceEq, Int.reduceLT, Int.reduceLE, Nat.reduceMul, Nat.reduceMod, evW, fn_eq, evR, Nat.reduceAdd, Nat.reduceLT, Nat.reduceLeDiff, reduceIte, Nat.reduceEqDiff, reduceCtorEq, argEnv, eq_self, if_true, if_false]
          exact ⟨_, _, _, rfl, by rfl, by simpa [hg] using a3⟩
        · have hg : findG b f q t j x = [] := if_neg (fun h => hk h.2)
          have hc0 : ¬ c = 0 := fun h => hk (hc.1 h)
          rw [hg]
          simp only [c8_l0, hE, hj, hlf, ha, rItem, ht, kb, h30, h29, hc0, hw, evX, Int.reduceEq, Int.reduceLT, Int.reduceLE, Nat.reduceMul, Nat.reduceMod, evW, fn_eq, evR, Nat.reduceAdd, Nat.reduceLT, Nat.reduceLeDiff, reduceIte, Nat.reduceEqDiff, reduceCtorEq, argEnv, eq_self, if_true, if_false]
          exact ⟨_, _, _, rfl, by rfl, by simpa using hO⟩
      · have hg : findG b f q t j x = [] := if_neg (fun h => ht h.1)
        rw [hg]
        simp only [c8_l0, hE, hj, hlf, ha, rItem, ht, hw, evX, Int.reduceEq, Int.reduceLT, Int.reduceLE, Nat.reduceMul, Nat.reduceMod, evW, fn_eq, evR, Nat.reduceAdd, Nat.reduceLT, Nat.reduceLeDiff, reduceIte, Nat.reduceEqDiff, reduceCtorEq, argEnv, eq_self, if_true, if_false]
        exact ⟨_, _, _, rfl, by rfl, by simpa using hO⟩)
    (fun E X rv hE => by
      simp only [c8_l0, hE, hlf, Int.lt_irrefl, evX, Int.reduceEq, Int.reduceLT, Int.reduceLE, Nat.reduceMul, Nat.reduceMod, evW, fn_eq, evR, Nat.reduceAdd, Nat.reduceLT, Nat.reduceLeDiff, reduceIte, Nat.reduceEqDiff, reduceCtorEq, argEnv, eq_self, if_true, if_false]
      exact ⟨_, rfl, by rfl⟩) st [] .nils (.nils ..) hE (by simpa using hH) z hz
  simp only [c8, eBase, h10, t0, t1, hlt, evX, Int.reduceEq, Int.reduceLT, Int.reduceLE, Nat.reduceMul, Nat.reduceMod, evW, fn_eq, evR, Nat.reduceAdd, Nat.reduceLT, Nat.reduceLeDiff, reduceIte, Nat.reduceEqDiff, reduceCtorEq, argEnv, eq_self, if_true, if_false]
  generalize hz : itLim _ _ = z
  obtain ⟨T, X, rv, rfl, hT, hO⟩ := L _ (by rfl) (by rw [hK]; rfl) z hz
  clear hz L
  obtain ⟨ids, g1, g2, g3⟩ := fz_out' hO K rfl (plain_ints _)
  have htk := kt X
  have hsc := out_tup hO
  generalize K ++ X = Z at *
  simp only [hT, hsc, evX, Int.reduceEq, Int.reduceLT, Int.reduceLE, Nat.reduceMul, Nat.reduceMod, evW, fn_eq, evR, Nat.reduceAdd, Nat.reduceLT, Nat.reduceLeDiff, reduceIte, Nat.reduceEqDiff, reduceCtorEq, argEnv, eq_self, if_true, if_false]
  exact frz_two g1 g3 htk (fun k hk => by have := g2 k hk; omega) _ _
end Go.Proofs.YtcbmakanokmdjaaDoor.Code

/- The law PlainFinds is true. -/
set_option linter.unusedSimpArgs false
set_option linter.unusedVariables false
namespace Go.Proofs.YtcbmakanokmdjaaDoor.Code
open Go.Proofs.YtcbmakanokmdjaaDoor.Ev

theorem find_own {b : Base} {f : List Item} {i : Nat} {x : Item} (hx : f[i]? = some x) : (i : Int) ∈ findL b f (keyU (fkL b f i)) x.type := by
  unfold findL
  rw [mem_gath]
  exact ⟨i, x, hx, by simp [findG]⟩
theorem findV_len (b : Base) (f : List Item) (q : List UInt8) (t : Int) : (findV b f q t).length ≤ f.length := by
  unfold findV
  split
  · exact findG_len b f q t f
  · simp
/-- one is among them, so far -/
def hasI (l : List Int) (i : Int) (j : Nat) : Bool := (l.take j).any fun k => decide (k = i)
theorem hasI_step {l : List Int} {i k : Int} {j : Nat} (h : l[j]? = some k) : hasI l i (j + 1) = (hasI l i j || decide (k = i)) := by
  unfold hasI
  rw [List.take_add_one, h, Option.toList_some, List.any_append]; simp
theorem l3_0 (b : Base) (f : List Item) (i : Int) (l : List Int) (hl : l.length ≤ 1000000) (n : Nat) (H : Heap) (st : St) (hE : keepEnv st.1 [1, 3, 13, 15, 16, 17, 18, 19] = [(1, eItems f), (3, .ptr n 0 4 0 0), (13, .int .i64 i), (15, .int .i64 0), (16, eIs l), (17, .int .i64 0), (18, .bool false), (19, .int .i64 0)]) (hH : st.2 = H)
    (z : Option (CX × St)) (hz : itLim (evCode (evC cprog) itLim c3_l0) st = z) : ∃ T, z = some (.exit 2, T, H) ∧ keepEnv T [1, 3, 13, 15, 17, 18] = [(1, eItems f), (3, .ptr n 0 4 0 0), (13, .int .i64 i), (15, .int .i64 0), (17, .int .i64 0), (18, .bool (hasI l i l.length))] := by
  have hlen := (sIs [] l).len
  simp only [List.length_map] at hlen
  have L := loop_rule (σ := Nat) (m := [1, 3, 13, 15, 16, 17, 18, 19]) (env := fun j => [(1, eItems f), (3, .ptr n 0 4 0 0), (13, .int .i64 i), (15, .int .i64 0), (16, eIs l), (17, .int .i64 0), (18, .bool (hasI l i j)), (19, .int .i64 (j : Int))]) (hp := fun _ => H)
    (P := fun _ r => ∃ T, r = (.exit 2, T, H) ∧ keepEnv T [1, 3, 13, 15, 17, 18] = [(1, eItems f), (3, .ptr n 0 4 0 0), (13, .int .i64 i), (15, .int .i64 0), (17, .int .i64 0), (18, .bool (hasI l i l.length))])
    (mu := fun j => l.length - j) (I := fun j => j ≤ l.length) (evCode (evC cprog) itLim c3_l0) ?_ 0 st (Nat.zero_le _) hE hH z hz
  · obtain ⟨_, rfl, T, rfl, hT⟩ := L
    exact ⟨T, rfl, hT⟩
  · intro j hj E hE
    by_cases hlt : j < l.length
    · obtain ⟨k, hk⟩ : ∃ k, l[j]? = some k := ⟨_, List.getElem?_eq_getElem hlt⟩
      have hi : (j : Int) < (l.length : Int) := by omega
      have ha := aI hk
      have hw := wrapS hlt (by omega)
      have hs := hasI_step (i := i) hk
      cases hb : hasI l i j with
      | true =>
        rw [hb] at hE hs
        simp only [c3_l0, hE, hi, hlen, ha, rI, hw, evX, Int.reduceEq, Int.reduceLT, Int.reduceLE, Nat.reduceMul, Nat.reduceMod, evW, fn_eq, evR, Nat.reduceAdd, Nat.reduceLT, Nat.reduceLeDiff, reduceIte, Nat.reduceEqDiff, reduceCtorEq, argEnv, eq_self, if_true, if_false]
        exact q_next (j + 1) (by rw [hs]; rfl) rfl (by omega) (by omega) fun r h => h
      | false =>
        rw [hb] at hE hs
        simp only [c3_l0, hE, hi, hlen, ha, rI, hw, evX, Int.reduceEq, Int.reduceLT, Int.reduceLE, Nat.reduceMul, Nat.reduceMod, evW, fn_eq, evR, Nat.reduceAdd, Nat.reduceLT, Nat.reduceLeDiff, reduceIte, Nat.reduceEqDiff, reduceCtorEq, argEnv, eq_self, if_true, if_false]
        exact q_next (j + 1) (by rw [hs]; rfl) rfl (by omega) (by omega) fun r h => h
    · have : j = l.length := by omega
      subst this
      simp only [c3_l0, hE, hlen, Int.lt_irrefl, evX, Int.reduceEq, Int.reduceLT, Int.reduceLE, Nat.reduceMul, Nat.reduceMod, evW, fn_eq, evR, Nat.reduceAdd, Nat.reduceLT, Nat.reduceLeDiff, reduceIte, Nat.reduceEqDiff, reduceCtorEq, argEnv, eq_self, if_true, if_false]
      exact q_exit ⟨_, rfl, by rfl⟩
set_option maxHeartbeats 8000000 in
theorem l3_1 (b : Base) (hb : b.Ok) (f : List Item) (hr : Right b f) (n : Nat) (H : Heap) (hn : Sits H n (bBase b)) (st : St) (hE : keepEnv st.1 [1, 3, 13] = [(1, eItems f), (3, .ptr n 0 4 0 0), (13, .int .i64 0)]) (hH : st.2 = H)
    (z : Option (CX × St)) (hz : itLim (evCode (evC cprog) itLim c3_l1) st = z) : ∃ T, z = some (.exit 0, T, H) := by
  have hfr := hr.len
  have hlen := (sItems [] f).len
  simp only [List.length_map] at hlen
  have hn0 := hn.at
  simp only [bBase] at hn0
  have L := loop_rule (σ := Nat) (m := [1, 3, 13]) (env := fun i => [(1, eItems f), (3, .ptr n 0 4 0 0), (13, .int .i64 (i : Int))]) (hp := fun _ => H)
    (P := fun _ r => ∃ T, r = (.exit 0, T, H))
    (mu := fun i => f.length + 5 - i) (I := fun i => i ≤ f.length + 5) (evCode (evC cprog) itLim c3_l1) ?_ 0 st (Nat.zero_le _) hE hH z hz
  · obtain ⟨_, rfl, T, rfl⟩ := L
    exact ⟨T, rfl⟩
  · intro i hi E hE
    by_cases hlt : i < f.length
    · obtain ⟨x, hx⟩ : ∃ x, f[i]? = some x := ⟨_, List.getElem?_eq_getElem hlt⟩
      have hil : (i : Int) < (f.length : Int) := by omega
      have ha := aItem hx
      have hw : IntKind.i64.wrap ((i : Int) + 5) = ((i + 5 : Nat) : Int) := by rw [wrap_i64 (by omega) (by omega)]; omega
      have he0 : errF b f [(i : Int)] = 0 := right_err hr hlt
      have h11 := f11 b hb f (by omega) (i : Int) H
      have hkv : keyV b f (i : Int) = keyU (fkL b f i) := by unfold keyV; rw [if_pos he0, Int.toNat_natCast]
      rw [he0, hkv] at h11
      have h7 := f7 b hb f (keyU (fkL b f i)) x.type H
      have hfe : findE b f x.type = 0 := by
        obtain ⟨y, k, t, hy, hk, hkl, _⟩ := hr.item hlt
        rw [hx] at hy; cases hy
        have : errF b f [] = 0 := by
          unfold errF; rw [if_pos hr.valid, if_pos hr.forest]; simp
        unfold findE; rw [if_pos this, if_pos (by omega)]
      rw [hfe] at h7
      have hfv : findV b f (keyU (fkL b f i)) x.type = findL b f (keyU (fkL b f i)) x.type := if_pos hfe
      rw [hfv] at h7
      have hall : hasI (findL b f (keyU (fkL b f i)) x.type) (i : Int) (findL b f (keyU (fkL b f i)) x.type).length = true := by
        unfold hasI
        rw [List.take_of_length_le (Nat.le_refl _), List.any_eq_true]
        exact ⟨_, find_own hx, by simp⟩
      have hfl := findG_len b f (keyU (fkL b f i)) x.type f
      simp only [eBase] at h11 h7
      simp only [c3_l1, hE, hil, hlen, hn0, h11, h7, ha, rItem, evX, Int.reduceEq, Int.reduceLT, Int.reduceLE, Nat.reduceMul, Nat.reduceMod, evW, fn_eq, evR, Nat.reduceAdd, Nat.reduceLT, Nat.reduceLeDiff, reduceIte, Nat.reduceEqDiff, reduceCtorEq, argEnv, eq_self, if_true, if_false]
      generalize hz : itLim _ _ = z
      obtain ⟨T, rfl, hT⟩ := l3_0 b f (i : Int) (findL b f (keyU (fkL b f i)) x.type) (by unfold findL; omega) n H _ (by rfl) rfl z hz
      rw [hall] at hT
      simp only [hT, hw, evX, Int.reduceEq, Int.reduceLT, Int.reduceLE, Nat.reduceMul, Nat.reduceMod, evW, fn_eq, evR, Nat.reduceAdd, Nat.reduceLT, Nat.reduceLeDiff, reduceIte, Nat.reduceEqDiff, reduceCtorEq, argEnv, eq_self, if_true, if_false]
      exact q_next (i + 5) (by rfl) rfl (by omega) (by omega) fun r h => h
    · have hil : ¬ (i : Int) < (f.length : Int) := by omega
      simp only [c3_l1, hE, hil, hlen, evX, Int.reduceEq, Int.reduceLT, Int.reduceLE, Nat.reduceMul, Nat.reduceMod, evW, fn_eq, evR, Nat.reduceAdd, Nat.reduceLT, Nat.reduceLeDiff, reduceIte, Nat.reduceEqDiff, reduceCtorEq, argEnv, eq_self, if_true, if_false]
      exact q_exit ⟨_, rfl⟩
set_option maxHeartbeats 8000000 in
theorem f3 (b : Base) (hb : b.Ok) (f : List Item) (hf : f.length < 9223372036854775807) (q : List UInt8) (t : Int) : ∃ H', evC cprog 3 [eBase b, eItems f, .agg [eU q, .int .i64 t]] [] = some (.bool true, H') := by
  have h5 := f5 b hb f hf
  have h6 := f6
  have h7 := f7 b hb f q t
  have h8 := f8 b hb f hf q t
  have h9 := f9 (findV b f q t) (by have := findV_len b f q t; omega)
  have h10 := fun K => f10 b hb f hf .nils [] (by simp) K (nil_slat K)
  have hlq := (sU [] q).len
  simp only [List.length_map] at hlq
  have hcu : (eU q).cells = [eU q] := rfl
  have htu : (eU q).isTup = false := rfl
  simp only [eBase] at h5 h7 h8 h10
  rw [evC_fn at3]
  cases hs : small b f with
  | false =>
    simp only [c3, eBase, hcu, htu, h5, h6, hs, evX, Int.reduceEq, Int.reduceLT, Int.reduceLE, Nat.reduceMul, Nat.reduceMod, evW, fn_eq, evR, Nat.reduceAdd, Nat.reduceLT, Nat.reduceLeDiff, reduceIte, Nat.reduceEqDiff, reduceCtorEq, argEnv, eq_self, if_true, if_false]
    all_goals exact ⟨_, rfl⟩
  | true =>
    by_cases hq : (500 : Int) < (q.length : Int)
    · simp only [c3, eBase, hcu, htu, h5, h6, hs, hlq, hq, evX, Int.reduceEq, Int.reduceLT, Int.reduceLE, Nat.reduceMul, Nat.reduceMod, evW, fn_eq, evR, Nat.reduceAdd, Nat.reduceLT, Nat.reduceLeDiff, reduceIte, Nat.reduceEqDiff, reduceCtorEq, argEnv, eq_self, if_true, if_false]
      all_goals exact ⟨_, rfl⟩
    by_cases he : errF b f [] = 0
    · have hr := (errF_zero hb he).1
      rw [he] at h10
      simp only [c3, eBase, hcu, htu, h5, h6, hs, hlq, hq, h7, h8, h9, h10, evX, Int.reduceEq, Int.reduceLT, Int.reduceLE, Nat.reduceMul, Nat.reduceMod, evW, fn_eq, evR, Nat.reduceAdd, Nat.reduceLT, Nat.reduceLeDiff, reduceIte, Nat.reduceEqDiff, reduceCtorEq, argEnv, eq_self, if_true, if_false]
      generalize hz : itLim _ _ = z
      obtain ⟨T, rfl⟩ := l3_1 b hb f hr 0 _ (.mk (by rfl)) _ (by rfl) rfl z hz
      simp only [h6, evX, Int.reduceEq, Int.reduceLT, Int.reduceLE, Nat.reduceMul, Nat.reduceMod, evW, fn_eq, evR, Nat.reduceAdd, Nat.reduceLT, Nat.reduceLeDiff, reduceIte, Nat.reduceEqDiff, reduceCtorEq, argEnv, eq_self, if_true, if_false]
      all_goals exact ⟨_, rfl⟩
    · simp only [c3, eBase, hcu, htu, h5, h6, hs, hlq, hq, h7, h8, h9, h10, he, evX, Int.reduceEq, Int.reduceLT, Int.reduceLE, Nat.reduceMul, Nat.reduceMod, evW, fn_eq, evR, Nat.reduceAdd, Nat.reduceLT, Nat.reduceLeDiff, reduceIte, Nat.reduceEqDiff, reduceCtorEq, argEnv, eq_self, if_true, if_false]
      all_goals exact ⟨_, rfl⟩
theorem open_byte {r : List AV} (h : HasL [.int .u8] r) : ∃ n : UInt8, r = rU n ∧ True := by
  simp only [HasL, Has] at h
  obtain ⟨x, xs, rfl, ⟨n, rfl, hn⟩, rfl⟩ := h
  have : 0 ≤ n ∧ n < 256 := by
    have e1 : IntKind.u8.min = 0 := rfl
    have e2 : IntKind.u8.max = 255 := rfl
    simp [Lit.wf, e1, e2] at hn
    omega
  refine ⟨UInt8.ofNat n.toNat, ?_, trivial⟩
  have h2 : (UInt8.ofNat n.toNat).toNat = n.toNat := by
    rw [UInt8.toNat_ofNat']; omega
  simp only [rU, h2, Int.toNat_of_nonneg this.1]
theorem open_Sought {a : AV} (h : ArgTy true [.sl [.int .u8], .int .i64] a) : ∃ (q : List UInt8) (t : Int), a = .agg [eU q, .int .i64 t] := by
  obtain ⟨bs, rfl, h⟩ := h
  simp only [HasL.eq_2, HasL.eq_1, Has] at h
  obtain ⟨_, _, rfl, ⟨l, rfl, _, hr⟩, _, _, rfl, ⟨t, rfl, _⟩, rfl⟩ := h
  obtain ⟨q, rfl, _⟩ := typed (P := HasL [.int .u8]) (fun r h => open_byte h) l (fun r h => by simpa only [HasL.eq_2, HasL.eq_1, Has] using hr r h)
  exact ⟨q, t, rfl⟩
end Go.Proofs.YtcbmakanokmdjaaDoor.Code
namespace Go.Proofs.YtcbmakanokmdjaaDoor.Pure
open Go.Proofs.YtcbmakanokmdjaaDoor.Ev Go.Proofs.YtcbmakanokmdjaaDoor.Code
theorem PlainFinds (a0 : AV) (t0 : ArgTy true [.str, .int .i64, .sl [.str, .int .i64, .int .i64, .int .i64, .sl [.str, .int .i64, .int .i64], .int .i64, .bool, .bool], .sl [.str, .int .i64, .int .i64, .str]] a0) (a1 : AV) (t1 : ArgTy false [.sl [.int .i64, .str]] a1) (a2 : AV) (t2 : ArgTy true [.sl [.int .u8], .int .i64] a2) : ∃ H', evC cprog 3 [a0, a1, a2] [] = some (.bool true, H') := by
  obtain ⟨b, rfl, hb⟩ := open_Base t0
  obtain ⟨f, rfl, hf⟩ := open_Items t1
  obtain ⟨q, t, rfl⟩ := open_Sought t2
  exact f3 b hb f hf q t
end Go.Proofs.YtcbmakanokmdjaaDoor.Pure

