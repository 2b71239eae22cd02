/- Loops that look at each element of a list in turn. -/
import Derived.Test.YtbdpceigmnpoaaaGreatDoorEvT
set_option linter.unusedSimpArgs false
set_option linter.unusedVariables false
namespace Go.Proofs.YtbdpceigmnpoaaaGreatDoor.Ev

/-- goes on, with the heap grown at its end -/
def Nx (m : List Nat) (e : Env) (H K : Heap) (o : Option (CX × St)) : Prop := ∃ T G, o = some (.normal, T, H ++ (K ++ G)) ∧ keepEnv T m = e
/-- leaves -/
def Lv (H K : Heap) (A : CX → Env → Prop) (o : Option (CX × St)) : Prop := ∃ c T G, o = some (c, T, H ++ (K ++ G)) ∧ c ≠ .normal ∧ A c T
theorem Nx.mk {m : List Nat} {e : Env} {H K : Heap} {T : Env} {G : Heap} (h : keepEnv T m = e) : Nx m e H K (some (.normal, T, H ++ (K ++ G))) := ⟨T, G, rfl, h⟩
theorem Lv.ret {H K : Heap} {A : CX → Env → Prop} {T : Env} {G : Heap} (h : A .ret T) : Lv H K A (some (.ret, T, H ++ (K ++ G))) := ⟨_, T, G, rfl, by simp, h⟩
theorem Lv.exit {H K : Heap} {A : CX → Env → Prop} {T : Env} {G : Heap} {i : Nat} (h : A (.exit i) T) : Lv H K A (some (.exit i, T, H ++ (K ++ G))) := ⟨_, T, G, rfl, by simp, h⟩

/-- goes on if `ok`, else leaves -/
structure Sc (m : List Nat) (e : Env) (H K : Heap) (B : CX → Env → Prop) (ok : Bool) (o : Option (CX × St)) : Prop where
  go : ok = true → Nx m e H K o
  no : ok = false → Lv H K B o
section
variable {m : List Nat} {e : Env} {H K : Heap} {B : CX → Env → Prop} {ok : Bool} {T : Env} {G : Heap}
theorem Sc.next (h : ok = true) (hT : keepEnv T m = e) : Sc m e H K B ok (some (.normal, T, H ++ (K ++ G))) := ⟨fun _ => .mk hT, fun h' => by rw [h] at h'; cases h'⟩
theorem Sc.ret (h : ok = false) (hT : B .ret T) : Sc m e H K B ok (some (.ret, T, H ++ (K ++ G))) := ⟨fun h' => by rw [h] at h'; (cases h'), fun _ => .ret hT⟩
theorem Sc.exit {i : Nat} (h : ok = false) (hT : B (.exit i) T) : Sc m e H K B ok (some (.exit i, T, H ++ (K ++ G))) := ⟨fun h' => by rw [h] at h'; (cases h'), fun _ => .exit hT⟩
end
/-- a loop over a list: goes on as long as `ok`, leaves with B at the first element that is not, and with A at the end -/
theorem scan_rule {α : Type} (l : List α) (ok : Nat → α → Bool) (m : List Nat) (env : Nat → Env) (H K : Heap) (body : St → Option (CX × St)) (A : CX → Env → Prop) (B : Nat → α → CX → Env → Prop)
    (step : ∀ i x, l[i]? = some x → ∀ E G, keepEnv E m = env i → Sc m (env (i + 1)) H K (B i x) (ok i x) (body (E, H ++ (K ++ G))))
    (fin : ∀ E G, keepEnv E m = env l.length → Lv H K A (body (E, H ++ (K ++ G)))) :
    ∀ (st : St) (G : Heap), keepEnv st.1 m = env 0 → st.2 = H ++ (K ++ G) → ∀ z, itLim body st = z →
      ((∀ i x, l[i]? = some x → ok i x = true) ∧ Lv H K A z) ∨ (∃ i x, l[i]? = some x ∧ ok i x = false ∧ (∀ j y, j < i → l[j]? = some y → ok j y = true) ∧ Lv H K (B i x) z) := by
  have key : ∀ (n i : Nat) (E : Env) (G : Heap), l.length - i = n → i ≤ l.length → (∀ j y, j < i → l[j]? = some y → ok j y = true) → keepEnv E m = env i →
      ((∀ i x, l[i]? = some x → ok i x = true) ∧ Lv H K A (itLim body (E, H ++ (K ++ G)))) ∨ (∃ i x, l[i]? = some x ∧ ok i x = false ∧ (∀ j y, j < i → l[j]? = some y → ok j y = true) ∧ Lv H K (B i x) (itLim body (E, H ++ (K ++ G)))) := by
    intro n
    induction n with
    | zero =>
      intro i E G hn hi hb hE
      have : i = l.length := by omega
      subst this
      refine .inl ⟨fun j x hx => hb j x ((List.getElem?_eq_some_iff.1 hx).1) hx, ?_⟩
      obtain ⟨c, T, G', h1, h2, h3⟩ := fin E G hE
      refine ⟨c, T, G', ?_, h2, h3⟩
      rw [itLim_eq, h1]
      cases c <;> first | exact absurd rfl h2 | rfl
    | succ n ih =>
      intro i E G hn hi hb hE
      have hlt : i < l.length := by omega
      obtain ⟨x, hx⟩ : ∃ x, l[i]? = some x := ⟨_, List.getElem?_eq_getElem hlt⟩
      have hs := step i x hx E G hE
      cases hok : ok i x with
      | true =>
        obtain ⟨T, G', h1, h2⟩ := hs.go hok
        rw [itLim_eq, h1]
        refine ih (i + 1) T G' (by omega) (by omega) (fun j y hj hy => ?_) h2
        by_cases hji : j < i
        · exact hb j y hji hy
        · have : j = i := by omega
          subst this
          rw [hx] at hy; cases hy; exact hok
      | false =>
        refine .inr ⟨i, x, hx, hok, hb, ?_⟩
        obtain ⟨c, T, G', h1, h2, h3⟩ := hs.no hok
        refine ⟨c, T, G', ?_, h2, h3⟩
        rw [itLim_eq, h1]
        cases c <;> first | exact absurd rfl h2 | rfl
  intro st G hE hH z hz
  obtain ⟨E, H1⟩ := st
  simp only at hE hH
  subst hH
  subst hz
  exact key _ 0 E G rfl (Nat.zero_le _) (fun j y hj => by omega) hE
/-- the same, where what stands at an element does not tell its place -/
theorem all_rule {α : Type} (l : List α) (ok : α → Bool) (m : List Nat) (env : Nat → Env) (H K : Heap) (body : St → Option (CX × St)) (A B : CX → Env → Prop)
    (step : ∀ i x, l[i]? = some x → ∀ E G, keepEnv E m = env i → Sc m (env (i + 1)) H K B (ok x) (body (E, H ++ (K ++ G))))
    (fin : ∀ E G, keepEnv E m = env l.length → Lv H K A (body (E, H ++ (K ++ G)))) (st : St) (G : Heap) (hE : keepEnv st.1 m = env 0) (hH : st.2 = H ++ (K ++ G)) (z : Option (CX × St)) (hz : itLim body st = z) :
    (l.all ok = true ∧ Lv H K A z) ∨ (l.all ok = false ∧ Lv H K B z) := by
  rcases scan_rule l (fun _ => ok) m env H K body A (fun _ _ => B) step fin st G hE hH z hz with ⟨h1, h2⟩ | ⟨i, x, hx, h1, _, h2⟩
  · refine .inl ⟨List.all_eq_true.2 fun x hx => ?_, h2⟩
    obtain ⟨i, hi⟩ := List.getElem?_of_mem hx
    exact h1 i x hi
  · refine .inr ⟨?_, h2⟩
    rw [List.all_eq_false]
    exact ⟨x, List.mem_of_getElem? hx, by simp [h1]⟩
theorem curBlk_app {H G : Heap} {b v s : Nat} {k : Blk} (h : curBlk H b v s = some k) : curBlk (H ++ G) b v s = some k := by
  unfold curBlk at *
  cases hb : H[b]? with
  | none => simp [hb] at h
  | some k' =>
    rw [List.getElem?_append_left (List.getElem?_eq_some_iff.1 hb).1, hb]
    rw [hb] at h
    exact h
theorem PtrAt.app {H : Heap} {p : AV} {row : List AV} (h : PtrAt H p row) (G : Heap) : PtrAt (H ++ G) p row := by
  rcases h with rfl | ⟨b, v, s, i, k, rfl, h1, h2⟩
  · exact .inl rfl
  · exact .inr ⟨b, v, s, i, k, rfl, curBlk_app h1, h2⟩
theorem PtrAt.aggx {H : Heap} {p : AV} {row : List AV} (h : PtrAt H p row) {n : Nat} (hn : row.length = n) (X : Heap) : loadK true n (H ++ X) (some p) = some (.agg row) := (h.app X).agg hn
theorem PtrAt.fldx {H : Heap} {p : AV} {row : List AV} (h : PtrAt H p row) (off sz : Nat) (X : Heap) : loadK false sz (H ++ X) (some (Ev.fld p off)) = row[off]? := (h.app X).fld off sz
theorem PtrAt.onex {H : Heap} {p x : AV} (h : PtrAt H p [x]) (X : Heap) : loadK false 1 (H ++ X) (some p) = some x := (h.app X).one
theorem SlAt.app {H : Heap} {sz : Nat} {a : AV} {rows : List (List AV)} (h : SlAt H sz a rows) (G : Heap) : SlAt (H ++ G) sz a rows :=
  ⟨h.len, fun i row hi => let ⟨h1, p, h2, h3⟩ := h.get i row hi; ⟨h1, p, h2, h3.app G⟩⟩
theorem wrapP {i n : Nat} (h : i < n) (hi : 0 < i) (hn : n < 9223372036854775807) : IntKind.i64.wrap ((i : Int) - 1) = ((i - 1 : Nat) : Int) := by
  rw [wrap_i64 (by omega) (by omega)]; omega
open Classical in
/-- a proposition as a bool -/
noncomputable def tell (p : Prop) : Bool := decide p
theorem tell_true {p : Prop} : tell p = true ↔ p := by simp [tell]
theorem tell_false {p : Prop} : tell p = false ↔ ¬ p := by simp [tell]
theorem tell_pos {p : Prop} (h : p) : tell p = true := tell_true.2 h
theorem tell_neg {p : Prop} (h : ¬ p) : tell p = false := tell_false.2 h
theorem wrapS {i n : Nat} (h : i < n) (hn : n < 9223372036854775807) : IntKind.i64.wrap ((i : Int) + 1) = ((i + 1 : Nat) : Int) := by
  rw [wrap_i64 (by omega) (by omega)]; rfl
theorem less_tri : ∀ x y : List UInt8, (Op.bytesLess x y || decide (x = y)) = !Op.bytesLess y x
  | [], [] => by simp [Op.bytesLess]
  | [], b :: y => by simp [Op.bytesLess]
  | a :: x, [] => by simp [Op.bytesLess]
  | a :: x, b :: y => by
    have ih := less_tri x y
    simp only [Op.bytesLess]
    by_cases h1 : a = b
    · subst h1
      have : ¬ a < a := UInt8.lt_irrefl a
      simp only [this, decide_false, Bool.false_or, beq_self_eq_true, Bool.true_and, List.cons.injEq, true_and]
      exact ih
    · have h1' : ¬ b = a := fun h => h1 h.symm
      have e1 : (a == b) = false := by simp [h1]
      have e2 : (b == a) = false := by simp [h1']
      have e3 : ¬ (a :: x = b :: y) := fun h => h1 (List.cons.inj h).1
      simp only [e1, e2, Bool.false_and, Bool.or_false, e3, decide_false]
      have hn : a.toNat ≠ b.toNat := fun h => h1 (UInt8.toNat_inj.1 h)
      by_cases h2 : a < b
      · have : ¬ b < a := by rw [UInt8.lt_iff_toNat_lt] at *; omega
        simp [h2, this]
      · have : b < a := by rw [UInt8.lt_iff_toNat_lt] at *; omega
        simp [h2, this]
theorem bLt_tri (s t : ByteArray) : (bLt s t || decide (s = t)) = !bLt t s := by
  have := less_tri s.toList t.toList
  unfold bLt
  rw [← this]
  congr 1
  by_cases h : s = t
  · subst h; simp
  · have : ¬ s.toList = t.toList := fun e => h (data_ext (by rw [toList_eq, toList_eq] at e; exact Array.toList_inj.1 e))
    simp [h, this]
theorem bLt_irrefl (s : ByteArray) : bLt s s = false := by
  have := bLt_tri s s
  cases h : bLt s s <;> simp_all
end Go.Proofs.YtbdpceigmnpoaaaGreatDoor.Ev
