/- Arguments as they come: out of the row's reading into abstract values. -/
import Derived.Test.YtbdpceigmnpoaaaGreatDoorEvN
import Derived.SizedLaws
import Derived.WideShapes
import Derived.ChangeShapes
import Derived.Carry
set_option linter.unusedSimpArgs false
set_option linter.unusedVariables false
namespace Go.Proofs.YtbdpceigmnpoaaaGreatDoor.Ev
open Go.RowKit

inductive Ty where
  | int (k : IntKind)
  | bool
  | str
  | sl (es : List Ty)

mutual
def Has : Ty → AV → Prop
  | .int k, a => ∃ n, a = .int k n ∧ (Lit.int k n).wf = true
  | .bool, a => ∃ b, a = .bool b
  | .str, a => ∃ s, a = .str s ∧ s.size ≤ reachBytes
  | .sl es, a => ∃ l, a = .lst l ∧ l.length ≤ reachBytes ∧ ∀ r ∈ l, HasL es r
def HasL : List Ty → List AV → Prop
  | [], as => as = []
  | t :: ts, as => ∃ x xs, as = x :: xs ∧ Has t x ∧ HasL ts xs
end
theorem HasL.length : ∀ {ts : List Ty} {as : List AV}, HasL ts as → as.length = ts.length
  | [], as, h => by simp only [HasL] at h; rw [h]; rfl
  | t :: ts, as, h => by
    simp only [HasL] at h
    obtain ⟨x, xs, rfl, _, h2⟩ := h
    simp [HasL.length h2]
theorem HasL.append : ∀ {ts us : List Ty} {as bs : List AV}, HasL ts as → HasL us bs → HasL (ts ++ us) (as ++ bs)
  | [], us, as, bs, h, h' => by simp only [HasL] at h; rw [h]; exact h'
  | t :: ts, us, as, bs, h, h' => by
    simp only [HasL] at h
    obtain ⟨x, xs, rfl, h1, h2⟩ := h
    exact ⟨x, xs ++ bs, rfl, h1, HasL.append h2 h'⟩

def flatF (P : Program) (g : TypeId → Option (List Ty)) : List Field → Nat → Option (List Ty)
  | [], _ => some []
  | f :: fs, o => if f.offset = o then (match g f.type with
    | some l => if l.length = P.cellsOf f.type then (flatF P g fs (o + l.length)).map (l ++ ·) else none
    | none => none) else none
def flatT (P : Program) : Nat → TypeId → Option (List Ty)
  | 0, _ => none
  | d + 1, t => match P.underlying t with
    | some (.int k) => some [.int k]
    | some .bool => some [.bool]
    | some .string => some [.str]
    | some (.slice e) => match flatT P d e with
      | some l => if l.length = P.cellsOf e ∧ 0 < l.length ∧ 0 < P.bytesOf e then some [.sl l] else none
      | none => none
    | some (.struct fs) => match flatF P (flatT P d) fs.toList 0 with
      | some l => if l.length = P.cellsOf t then some l else none
      | none => none
    | some (.array n e) => match flatT P d e with
      | some l => if l.length = P.cellsOf e ∧ n * l.length = P.cellsOf t then some (List.replicate n l).flatten else none
      | none => none
    | _ => none

/-- cells that are there for good -/
def RFL (M : Mem) (as : List AV) (cs : List Value) : Prop := as.length = cs.length ∧ ∀ (i : Nat) (x : AV) (v : Value), as[i]? = some x → cs[i]? = some v → RepF M x v
theorem RFL.append {M : Mem} {as bs : List AV} {cs ds : List Value} (h : RFL M as cs) (h' : RFL M bs ds) : RFL M (as ++ bs) (cs ++ ds) := by
  refine ⟨by simp [h.1, h'.1], fun i x v hx hv => ?_⟩
  by_cases hi : i < as.length
  · rw [List.getElem?_append_left hi] at hx
    rw [List.getElem?_append_left (by rw [← h.1]; exact hi)] at hv
    exact h.2 i x v hx hv
  · rw [List.getElem?_append_right (by omega)] at hx
    rw [List.getElem?_append_right (by rw [← h.1]; omega), ← h.1] at hv
    exact h'.2 _ x v hx hv
theorem RFL.one {M : Mem} {x : AV} {v : Value} (h : RepF M x v) : RFL M [x] [v] := by
  refine ⟨rfl, fun i y u hy hu => ?_⟩
  cases i with
  | zero => simp at hy hu; subst hy; subst hu; exact h
  | succ i => simp at hy

theorem mapM_spec {α β : Type} {f : α → Option β} : ∀ {l : List α} {ys : List β}, l.mapM f = some ys → ys.length = l.length ∧ ∀ (i : Nat) (x : α), l[i]? = some x → ∃ y, ys[i]? = some y ∧ f x = some y
  | [], ys, h => by simp at h; subst h; simp
  | x :: l, ys, h => by
    simp only [List.mapM_cons, Option.bind_eq_bind, Option.pure_def] at h
    cases hf : f x with
    | none => simp [hf] at h
    | some y =>
      cases hr : l.mapM f with
      | none => simp [hf, hr] at h
      | some zs =>
        simp only [hf, hr, Option.bind_some, Option.some.injEq] at h
        subst h
        obtain ⟨h1, h2⟩ := mapM_spec hr
        refine ⟨by simp [h1], fun i z hz => ?_⟩
        cases i with
        | zero => simp at hz; subst hz; exact ⟨y, rfl, hf⟩
        | succ i => simpa using h2 i z (by simpa using hz)

def memOf (W : World) : Mem := fun g => match W.heap[g]? with
  | some (.cells c _ _) => some c
  | _ => none
theorem cell_mem {W : World} {a : Addr} {v : Value} (h : W.cell? a = some v) : a.spot = none ∧ ∃ cur, memOf W a.block = some cur ∧ cur[a.off]? = some v := by
  unfold World.cell? at h
  split at h
  · rename_i c e fr hb
    split at h
    · cases h
    · rename_i hs
      refine ⟨by cases hsp : a.spot <;> simp_all, c, by simp [memOf, hb], h⟩
  · cases h

section
variable {H : Type} {enc : TypeId × Value → H} {P : Program} {W : World}
theorem open_cells : ∀ (d fuel : Nat) (t : TypeId) (cs : List Value) (dd : DataW H) (ps : List MemPlace) (ts : List Ty), DataW.trod enc P W 0 (fun _ => true) true fuel t cs = some (dd, ps) → flatT P d t = some ts →
    (∀ n ∈ dd.weights P t, n ≤ reachBytes) → ∃ as, HasL ts as ∧ RFL (memOf W) as cs
  | 0, _, _, _, _, _, _, _, h, _ => by simp [flatT] at h
  | _ + 1, 0, _, _, _, _, _, h, _, _ => by simp [DataW.trod] at h
  | d + 1, fuel + 1, t, cs, dd, ps, ts, h, hf, hw => by
    simp only [flatT] at hf
    unfold DataW.trod at h
    split at hf
    · rename_i k hu
      cases hf
      rw [hu] at h
      split at h <;> try (simp_all; done)
      · rename_i k1 k' n hk1
        cases hk1
        split at h
        · rename_i hc
          obtain ⟨rfl, hwf⟩ := hc
          exact ⟨[.int k' n], ⟨_, _, rfl, ⟨n, rfl, hwf⟩, rfl⟩, .one (.int _ _)⟩
        · cases h
    · rename_i hu
      cases hf
      rw [hu] at h
      split at h <;> try (simp_all; done)
      · rename_i b _
        exact ⟨[.bool b], ⟨_, _, rfl, ⟨b, rfl⟩, rfl⟩, .one (.bool _)⟩
    · rename_i hu
      cases hf
      rw [hu] at h
      split at h <;> try (simp_all; done)
      · rename_i s _
        split at h
        · cases h
          refine ⟨[.str s], ⟨_, _, rfl, ⟨s, rfl, ?_⟩, rfl⟩, .one (.str _)⟩
          have := hw s.data.toList.length (by simp [DataW.weights])
          simpa using this
        · cases h
    · rename_i e hu
      split at hf
      · rename_i l hl
        split at hf
        · rename_i hc
          obtain ⟨hc1, hc2, hc3⟩ := hc
          cases hf
          rw [hu] at h
          split at h <;> try (simp_all; done)
          · exact ⟨[.lst []], ⟨_, _, rfl, ⟨[], rfl, by simp [reachBytes], by simp⟩, rfl⟩, .one (.lst0 _ _ fun _ => rfl)⟩
          · rename_i e1 a len cap he1
            cases he1
            split at h
            · rename_i hb
              obtain ⟨hb1, hb2, hb3⟩ := hb
              cases hm : (List.range len).mapM (fun i => (W.cells? 0 (a.add (i * P.cellsOf e)) (P.cellsOf e)).bind (DataW.trod enc P W 0 (fun _ => true) true fuel e)) with
              | none => simp [hm] at h
              | some elems =>
                simp only [hm, Option.bind_some, if_true] at h
                cases hr : (List.range (cap - len)).mapM (fun j => (W.cells? 0 (a.add ((len + j) * P.cellsOf e)) (P.cellsOf e)).bind (DataW.trod enc P W 0 (fun _ => true) true fuel e)) with
                | none => simp only [hr] at h; simp at h
                | some rest =>
                  simp only [hr, Option.map_some, Option.some.injEq, Prod.mk.injEq] at h
                  obtain ⟨rfl, _⟩ := h
                  obtain ⟨m1, m2⟩ := mapM_spec hm
                  simp only [List.length_range] at m1
                  have hwt : (elems.length + rest.length) * P.bytesOf e ≤ reachBytes := by
                    have := hw (((elems.map (·.1)).length + (rest.map (·.1)).length) * P.bytesOf e) (by simp [DataW.weights, hu])
                    simpa using this
                  have hlen : len ≤ reachBytes := by
                    rw [← m1]
                    exact Nat.le_trans (Nat.le_trans (Nat.le_add_right _ _) (Nat.le_mul_of_pos_right _ hc3)) hwt
                  have hel : ∀ j, j < len → ∃ csj asj, W.cells? 0 (a.add (j * P.cellsOf e)) (P.cellsOf e) = some csj ∧ HasL l asj ∧ RFL (memOf W) asj csj := by
                    intro j hj
                    obtain ⟨y, hy1, hy2⟩ := m2 j j (by simp [hj])
                    cases hcj : W.cells? 0 (a.add (j * P.cellsOf e)) (P.cellsOf e) with
                    | none => simp [hcj] at hy2
                    | some csj =>
                      simp only [hcj, Option.bind_some] at hy2
                      obtain ⟨asj, q1, q2⟩ := open_cells d fuel e csj y.1 y.2 l hy2 hl (fun n hn => hw n (by
                        simp only [DataW.weights, hu, List.mem_cons, List.mem_append]
                        refine .inr (.inl ?_)
                        have : ∀ (L : List (DataW H × List MemPlace)) (i : Nat), L[i]? = some y → n ∈ DataW.weightsAll P e (L.map (·.1)) := by
                          intro L
                          induction L with
                          | nil => intro i h; simp at h
                          | cons z L ih =>
                            intro i h
                            simp only [List.map_cons, DataW.weightsAll, List.mem_append]
                            cases i with
                            | zero => simp at h; subst h; exact .inl hn
                            | succ i => exact .inr (ih i (by simpa using h))
                        exact this elems j hy1))
                      exact ⟨csj, asj, rfl, q1, q2⟩
                  -- the rows
                  have rows : ∃ L : List (List AV), L.length = len ∧ ∀ j r, L[j]? = some r → HasL l r ∧ ∃ csj, W.cells? 0 (a.add (j * P.cellsOf e)) (P.cellsOf e) = some csj ∧ RFL (memOf W) r csj := by
                    have key : ∀ n, n ≤ len → ∃ L : List (List AV), L.length = n ∧ ∀ j r, L[j]? = some r → HasL l r ∧ ∃ csj, W.cells? 0 (a.add (j * P.cellsOf e)) (P.cellsOf e) = some csj ∧ RFL (memOf W) r csj := by
                      intro n
                      induction n with
                      | zero => exact fun _ => ⟨[], rfl, by simp⟩
                      | succ n ih =>
                        intro hn
                        obtain ⟨L, h1, h2⟩ := ih (by omega)
                        obtain ⟨csj, asj, q1, q2, q3⟩ := hel n (by omega)
                        refine ⟨L ++ [asj], by simp [h1], fun j r hj => ?_⟩
                        by_cases hjn : j < n
                        · rw [List.getElem?_append_left (by omega)] at hj
                          exact h2 j r hj
                        · rw [List.getElem?_append_right (by omega)] at hj
                          have : j = n := by
                            have := (List.getElem?_eq_some_iff.1 hj).1
                            simp at this; omega
                          subst this
                          simp [h1] at hj
                          subst hj
                          exact ⟨q2, csj, q1, q3⟩
                    exact key len (Nat.le_refl _)
                  obtain ⟨L, hL1, hL2⟩ := rows
                  refine ⟨[.lst L], ⟨_, _, rfl, ⟨L, rfl, by omega, fun r hr => ?_⟩, rfl⟩, .one ?_⟩
                  · obtain ⟨j, hj⟩ := List.getElem?_of_mem hr
                    exact (hL2 j r hj).1
                  · by_cases h0 : len = 0
                    · subst h0
                      have : L = [] := List.eq_nil_of_length_eq_zero hL1
                      subst this
                      exact .lst0 _ _ fun h => by cases h
                    · have cellj : ∀ j r, L[j]? = some r → ∀ c x, r[c]? = some x → ∃ v, W.cell? ((a.add (j * P.cellsOf e)).add c) = some v ∧ RepF (memOf W) x v := by
                        intro j r hj c x hc
                        obtain ⟨hh, csj, q1, q2⟩ := hL2 j r hj
                        have hcl : c < csj.length := by rw [← q2.1]; exact (List.getElem?_eq_some_iff.1 hc).1
                        unfold World.cells? at q1
                        rw [if_pos (Nat.zero_le _)] at q1
                        obtain ⟨p1, p2⟩ := mapM_spec q1
                        have hcr : c < P.cellsOf e := by rw [p1] at hcl; simpa using hcl
                        obtain ⟨v, hv1, hv2⟩ := p2 c c (by simp [hcr])
                        exact ⟨v, hv2, q2.2 c x v hc hv1⟩
                      have hL0 : 0 < L.length := by omega
                      obtain ⟨r0, hr0⟩ : ∃ r, L[0]? = some r := ⟨_, List.getElem?_eq_getElem hL0⟩
                      have hr0l : r0.length = l.length := (hL2 0 r0 hr0).1.length
                      obtain ⟨x0, hx0⟩ : ∃ x, r0[0]? = some x := ⟨_, List.getElem?_eq_getElem (by omega)⟩
                      obtain ⟨v0, hv0, _⟩ := cellj 0 r0 hr0 0 x0 hx0
                      simp only [Nat.zero_mul, Addr.add_zero'] at hv0
                      obtain ⟨hspot, cur, hcur, _⟩ := cell_mem hv0
                      obtain ⟨g, off, sp⟩ := a
                      simp only at hspot hcur
                      subst hspot
                      have hget : ∀ j r, L[j]? = some r → ∀ c x, r[c]? = some x → ∃ v, cur[off + (j * P.cellsOf e + c)]? = some v ∧ RepF (memOf W) x v := by
                        intro j r hj c x hc
                        obtain ⟨v, hv, hr⟩ := cellj j r hj c x hc
                        obtain ⟨_, cur', hcur', hv'⟩ := cell_mem hv
                        rw [Addr.add_lit, Addr.add_lit] at hcur' hv'
                        simp only at hcur' hv'
                        rw [hcur] at hcur'
                        cases hcur'
                        exact ⟨v, by rw [← Nat.add_assoc]; exact hv', hr⟩
                      rw [← hL1]
                      refine .lst L g off (P.cellsOf e) cap cur (fun j c => (cur[off + (j * P.cellsOf e + c)]?).getD undef) (by intro h; rw [h] at hL1; simp at hL1; omega) hcur (by omega) (fun j r hj => ?_) (fun j c r x hj hc => ?_) (fun j c r x hj hc => ?_)
                      · rw [(hL2 j r hj).1.length, hc1]
                      · obtain ⟨v, hv, _⟩ := hget j r hj c x hc
                        rw [hv]; rfl
                      · obtain ⟨v, hv, hr⟩ := hget j r hj c x hc
                        rw [hv]; exact hr
            · cases h
        · cases hf
      · cases hf
    · rename_i fs hu
      split at hf
      · rename_i l hl
        split at hf
        · rename_i hcl
          cases hf
          rw [hu] at h
          split at h <;> try (simp_all; done)
          · rename_i cs x0 cs0 fs1 hfs1
            cases hfs1
            split at h
            · rename_i hlen
              cases hm : fs.toList.mapM (fun f => DataW.trod enc P W 0 (fun _ => true) true fuel f.type ((cs.drop f.offset).take (P.cellsOf f.type))) with
              | none => simp [hm] at h
              | some xs =>
                simp only [hm, Option.map_some, Option.some.injEq, Prod.mk.injEq] at h
                obtain ⟨rfl, _⟩ := h
                have hw' : ∀ n ∈ DataW.weightsEach P (fs.toList.map (·.type)) (xs.map (·.1)), n ≤ reachBytes := fun n hn => hw n (by simp [DataW.weights, hu, hn])
                have key : ∀ (fl : List Field) (xs : List (DataW H × List MemPlace)) (o : Nat) (l : List Ty), fl.mapM (fun f => DataW.trod enc P W 0 (fun _ => true) true fuel f.type ((cs.drop f.offset).take (P.cellsOf f.type))) = some xs →
                    (∀ n ∈ DataW.weightsEach P (fl.map (·.type)) (xs.map (·.1)), n ≤ reachBytes) → flatF P (flatT P d) fl o = some l → o + l.length = cs.length → ∃ as, HasL l as ∧ RFL (memOf W) as (cs.drop o) := by
                  intro fl
                  induction fl with
                  | nil =>
                    intro xs o l _ _ hl hol
                    simp [flatF] at hl
                    subst hl
                    simp at hol
                    refine ⟨[], rfl, by simp; omega, by simp⟩
                  | cons f fl ih =>
                    intro xs o l hm hw hl hol
                    simp only [flatF] at hl
                    split at hl
                    · rename_i hoff
                      subst hoff
                      split at hl
                      · rename_i lf hlf
                        split at hl
                        · rename_i hcf
                          cases hrest : flatF P (flatT P d) fl (f.offset + lf.length) with
                          | none => simp [hrest] at hl
                          | some lr =>
                            simp only [hrest, Option.map_some, Option.some.injEq] at hl
                            subst hl
                            simp only [List.mapM_cons, Option.bind_eq_bind, Option.pure_def] at hm
                            cases hx : DataW.trod enc P W 0 (fun _ => true) true fuel f.type ((cs.drop f.offset).take (P.cellsOf f.type)) with
                            | none => simp [hx] at hm
                            | some y =>
                              cases hmr : fl.mapM (fun f => DataW.trod enc P W 0 (fun _ => true) true fuel f.type ((cs.drop f.offset).take (P.cellsOf f.type))) with
                              | none => simp [hx, hmr] at hm
                              | some ys =>
                                simp only [hx, hmr, Option.bind_some, Option.some.injEq] at hm
                                subst hm
                                simp only [List.map_cons, DataW.weightsEach, List.mem_append] at hw
                                simp only [List.length_append] at hol
                                obtain ⟨as1, p1, p2⟩ := open_cells d fuel f.type _ y.1 y.2 lf hx hlf fun n hn => hw n (.inl hn)
                                obtain ⟨as2, p3, p4⟩ := ih ys (f.offset + lf.length) lr hmr (fun n hn => hw n (.inr hn)) hrest (by omega)
                                refine ⟨as1 ++ as2, p1.append p3, ?_⟩
                                have : cs.drop f.offset = (cs.drop f.offset).take (P.cellsOf f.type) ++ cs.drop (f.offset + lf.length) := by
                                  rw [← hcf, ← List.drop_drop, List.take_append_drop]
                                rw [this]
                                exact p2.append p4
                        · cases hl
                      · cases hl
                    · cases hl
                obtain ⟨as, p1, p2⟩ := key fs.toList xs 0 ts hm hw' hl (by rw [hcl, hlen]; omega)
                exact ⟨as, p1, by simpa using p2⟩
            · cases h
        · cases hf
      · cases hf
    · rename_i n e hu
      split at hf
      · rename_i l hl
        split at hf
        · rename_i hc
          obtain ⟨hc1, hc2⟩ := hc
          cases hf
          rw [hu] at h
          split at h <;> try (simp_all; done)
          · rename_i cs x0 cs0 n1 e1 he1
            cases he1
            split at h
            · rename_i hlen
              cases hm : (List.range n).mapM (fun i => DataW.trod enc P W 0 (fun _ => true) true fuel e ((cs.drop (i * P.cellsOf e)).take (P.cellsOf e))) with
              | none => simp [hm] at h
              | some xs =>
                simp only [hm, Option.map_some, Option.some.injEq, Prod.mk.injEq] at h
                obtain ⟨rfl, _⟩ := h
                obtain ⟨m1, m2⟩ := mapM_spec hm
                have hel : ∀ i, i < n → ∃ as, HasL l as ∧ RFL (memOf W) as ((cs.drop (i * P.cellsOf e)).take (P.cellsOf e)) := by
                  intro i hi
                  obtain ⟨y, hy1, hy2⟩ := m2 i i (by simp [hi])
                  exact open_cells d fuel e _ y.1 y.2 l hy2 hl fun k hk => hw k (by
                    simp only [DataW.weights, hu]
                    have : ∀ (L : List (DataW H × List MemPlace)) (i : Nat), L[i]? = some y → k ∈ DataW.weightsAll P e (L.map (·.1)) := by
                      intro L
                      induction L with
                      | nil => intro i h; simp at h
                      | cons z L ih =>
                        intro i h
                        simp only [List.map_cons, DataW.weightsAll, List.mem_append]
                        cases i with
                        | zero => simp at h; subst h; exact .inl hk
                        | succ i => exact .inr (ih i (by simpa using h))
                    exact this xs i hy1)
                have key : ∀ m, m ≤ n → ∃ as, HasL (List.replicate m l).flatten as ∧ RFL (memOf W) as (cs.take (m * P.cellsOf e)) := by
                  intro m
                  induction m with
                  | zero => intro _; exact ⟨[], rfl, by simp, by simp⟩
                  | succ m ih =>
                    intro hm
                    obtain ⟨as, p1, p2⟩ := ih (by omega)
                    obtain ⟨bs, q1, q2⟩ := hel m (by omega)
                    refine ⟨as ++ bs, ?_, ?_⟩
                    · rw [List.replicate_succ', List.flatten_append]
                      simpa using p1.append q1
                    · have : cs.take ((m + 1) * P.cellsOf e) = cs.take (m * P.cellsOf e) ++ (cs.drop (m * P.cellsOf e)).take (P.cellsOf e) := by
                        rw [Nat.add_mul, Nat.one_mul, List.take_add]
                      rw [this]
                      exact p2.append q2
                obtain ⟨as, p1, p2⟩ := key n (Nat.le_refl _)
                refine ⟨as, p1, ?_⟩
                have : cs.take (n * P.cellsOf e) = cs := List.take_of_length_le (by rw [← hc1, hc2, hlen]; omega)
                rw [this] at p2
                exact p2
            · cases h
        · cases hf
      · cases hf
    · cases hf

/-- an argument, as the evaluator takes it -/
def ArgTy (ag : Bool) (ts : List Ty) (a : AV) : Prop := if ag = true then ∃ as, a = .agg as ∧ HasL ts as else HasL ts [a]
def Sta0 (W : World) : Sta := ⟨[], [], memOf W⟩
theorem wrel0 (W : World) (hG : GlobOk (memOf W)) : WRel (Sta0 W) W W.heap.size :=
  ⟨rfl, fun b k h => by simp [Sta0] at h, fun b b' k k' g rc rc' h => by simp [Sta0] at h, fun g cur h => (by
    simp only [Sta0, memOf] at h
    split at h
    · rename_i c e fr heq
      cases h
      exact ⟨e, fr, heq⟩
    · cases h), Nat.le_refl _, hG⟩
theorem open_arg {d : Nat} {t : TypeId} {v : Value} {dd : DataW H} {ps : List MemPlace} {ts : List Ty} {ag : Bool} {r : Reach} {b0 : Nat} (hval : Value.okWide P W r b0 t v) (h : DataW.Trod enc P W 0 (fun _ => true) true t v dd ps)
    (hf : flatT P d t = some ts) (ha : aggT P t = some ag) (hw : ∀ n ∈ dd.weights P t, n ≤ reachBytes) : ∃ a, ArgTy ag ts a ∧ RepV (Sta0 W) a v := by
  obtain ⟨fuel, hfu⟩ := h
  obtain ⟨as, h1, h2⟩ := open_cells d fuel t _ dd ps ts hfu hf hw
  have hlift : ∀ (i : Nat) (x : AV) (v' : Value), as[i]? = some x → v.cells.toList[i]? = some v' → RepS (Sta0 W) x v' := fun i x v' hx hv => .frz (h2.2 i x v' hx hv)
  cases ag with
  | true =>
    refine ⟨.agg as, ⟨as, rfl, h1⟩, ?_⟩
    have hv : ∃ cs, v = .agg cs := by
      unfold aggT at ha
      unfold Value.okWide at hval
      split at hval
      · obtain ⟨cs, rfl, _⟩ := hval; exact ⟨cs, rfl⟩
      · obtain ⟨cs, rfl, _⟩ := hval; exact ⟨cs, rfl⟩
      · rename_i hn1 hn2
        split at ha
        · exact absurd ‹_› (hn1 _)
        · exact absurd ‹_› (hn2 _ _)
        · cases ha
        · cases ha
    obtain ⟨cs, rfl⟩ := hv
    have e : (Value.agg cs) = .agg cs.toList.toArray := by simp
    rw [e]
    exact .one (.agg _ _ ⟨h2.1, hlift⟩)
  | false =>
    have single : ∀ (v0 : Value), v = v0 → v0.cells.toList = [v0] → ∃ a, ArgTy false ts a ∧ RepV (Sta0 W) a v := by
      intro v0 e1 e2
      subst e1
      rw [e2] at h2 hlift
      have hl := h2.1
      obtain ⟨x, rfl⟩ := List.length_eq_one_iff.1 hl
      exact ⟨x, h1, .one (.s (hlift 0 x v rfl rfl))⟩
    cases d with
    | zero => simp [flatT] at hf
    | succ d =>
      simp only [flatT] at hf
      unfold aggT at ha
      split at hf
      · rename_i k hu
        obtain ⟨n, rfl⟩ := WideShapes.okWide_int hu hval
        exact single _ rfl rfl
      · rename_i hu
        obtain ⟨n, rfl⟩ := WideShapes.okWide_bool hu hval
        exact single _ rfl rfl
      · rename_i hu
        obtain ⟨s, rfl⟩ := WideShapes.okWide_string hu hval
        exact single _ rfl rfl
      · rename_i e hu
        obtain ⟨a, len, cap, rfl⟩ := WideShapes.okWide_slice hu hval
        exact single _ rfl rfl
      · rename_i fs hu; rw [hu] at ha; cases ha
      · rename_i n e hu; rw [hu] at ha; cases ha
      · cases hf
end
end Go.Proofs.YtbdpceigmnpoaaaGreatDoor.Ev
