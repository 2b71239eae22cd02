/- Slicing, building, and all operations that only read, together. -/
import Derived.Test.YtbdpceigmnpoaaaGreatDoorEvE
set_option linter.unusedSimpArgs false
set_option linter.unusedVariables false
namespace Go.Proofs.YtbdpceigmnpoaaaGreatDoor.Ev
open Go.RowKit

/-- an optional bound, and what it is -/
def NatV (r : Option Value) (l : Option Nat) : Prop := (r = none ∧ l = none) ∨ ∃ k n, r = some (.int k n) ∧ 0 ≤ n ∧ l = some n.toNat
def okOOpd : Option Operand → Option COpd → Bool
  | none, none => true
  | some x, some y => okOpd x y
  | _, _ => false
theorem natV_of {S : Sta} {T : Env} {a : Act} {ss : List Nat} (hT : TRel S T a.tmps ss) {x : Option Operand} {y : Option COpd} (ho : okOOpd x y = true) (hs : ∀ t ∈ optSlots y, t ∈ ss) {l : Option Nat} (hl : evNat T y = some l) : NatV (x.map a.eval) l := by
  unfold okOOpd at ho
  split at ho
  · simp [evNat] at hl
    exact .inl ⟨rfl, hl.symm⟩
  · rename_i x y
    simp only [evNat] at hl
    cases hv : evOpd T y with
    | none => simp [hv] at hl
    | some v =>
      cases hn : asNat v with
      | none => simp [hv, hn] at hl
      | some n =>
        simp only [hv, hn, Option.map_some, Option.some.injEq] at hl
        subst hl
        obtain ⟨k, m, rfl, h0, rfl⟩ := asNat_spec hn
        exact .inr ⟨k, m, by simp [rep_int (opd_rep hT ho hs hv)], h0, rfl⟩
  · simp at ho
theorem run_sliceBound {P : Program} (w : World) {k : IntKind} {n : Int} (h0 : 0 ≤ n) {y : Nat} (h : n.toNat ≤ y) (c : BoundsCode) : (Instr.sliceBound (.int k n) y c).run P w = .ok n.toNat w := by
  have : n ≤ (y : Int) := by omega
  simp [Instr.sliceBound, asIntOf, h0, this]
theorem run_sliceBounds {P : Program} (w : World) (isS : Bool) (len cap : Nat) {lo hi : Option Value} {l h : Option Nat} (hl : NatV lo l) (hh : NatV hi h) (h1 : h.getD len ≤ cap) (h2 : l.getD 0 ≤ h.getD len) :
    (Instr.sliceBounds isS len cap lo hi none).run P w = .ok (l.getD 0, h.getD len, cap) w := by
  rcases hh with ⟨rfl, rfl⟩ | ⟨k, n, rfl, h0, rfl⟩ <;> rcases hl with ⟨rfl, rfl⟩ | ⟨k', n', rfl, h0', rfl⟩
  · simp [Instr.sliceBounds]
  · simp at h2
    simp [Instr.sliceBounds, run_sliceBound w h0' (show n'.toNat ≤ len by omega)]
  · simp at h1
    simp [Instr.sliceBounds, run_sliceBound w h0 (show n.toNat ≤ cap by omega)]
  · simp at h1 h2
    simp [Instr.sliceBounds, run_sliceBound w h0 (show n.toNat ≤ cap by omega), run_sliceBound w h0' (show n'.toNat ≤ n.toNat by omega)]
theorem run_sliceBounds3 {P : Program} (w : World) (len cap : Nat) {lo hi mx : Option Value} {l : Option Nat} {h : Nat} (hl : NatV lo l) (hh : NatV hi (some h)) (hm : NatV mx (some h)) (h1 : h ≤ cap) (h2 : l.getD 0 ≤ h) :
    (Instr.sliceBounds true len cap lo hi mx).run P w = .ok (l.getD 0, h, h) w := by
  rcases hh with ⟨_, hh⟩ | ⟨k, n, rfl, h0, hh⟩
  · cases hh
  rcases hm with ⟨_, hm⟩ | ⟨k1, n1, rfl, h01, hm⟩
  · cases hm
  obtain rfl : h = n.toNat := by simpa using hh
  have e : n1.toNat = n.toNat := by simpa using hm.symm
  rcases hl with ⟨rfl, rfl⟩ | ⟨k', n', rfl, h0', rfl⟩
  · simp [Instr.sliceBounds, run_sliceBound w h01 (show n1.toNat ≤ cap by omega), e, run_sliceBound w h0 (Nat.le_refl n.toNat)]
  · simp at h2
    simp [Instr.sliceBounds, run_sliceBound w h01 (show n1.toNat ≤ cap by omega), e, run_sliceBound w h0 (Nat.le_refl n.toNat), run_sliceBound w h0' (show n'.toNat ≤ n.toNat by omega)]

theorem run_sliceBounds4 {P : Program} (w : World) (len cap : Nat) {lo hi mx : Option Value} {l : Option Nat} {h m : Nat} (hl : NatV lo l) (hh : NatV hi (some h)) (hm : NatV mx (some m)) (h1 : m ≤ cap) (h2 : l.getD 0 ≤ h) (h3 : h ≤ m) :
    (Instr.sliceBounds true len cap lo hi mx).run P w = .ok (l.getD 0, h, m) w := by
  rcases hh with ⟨_, hh⟩ | ⟨k, n, rfl, h0, hh⟩
  · cases hh
  rcases hm with ⟨_, hm⟩ | ⟨k1, n1, rfl, h01, hm⟩
  · cases hm
  obtain rfl : h = n.toNat := by simpa using hh
  obtain rfl : m = n1.toNat := by simpa using hm
  rcases hl with ⟨rfl, rfl⟩ | ⟨k', n', rfl, h0', rfl⟩
  · simp [Instr.sliceBounds, run_sliceBound w h01 h1, run_sliceBound w h0 h3]
  · simp at h2
    simp [Instr.sliceBounds, run_sliceBound w h01 h1, run_sliceBound w h0 h3, run_sliceBound w h0' (show n'.toNat ≤ n.toNat by omega)]

section ops
variable {P : Program} {S : Sta} {w : World} {B : Nat} {T : Env} {a : Act} {ss : List Nat} {o : Oper} {x : AV}

def okSlcs (P : Program) (op : Op) (y : COpd) (lo hi : Option COpd) : Bool :=
  match op with
  | .slice t z l h none => okOpd z y && okOOpd l lo && okOOpd h hi && (match P.underlying t with | some .string => true | _ => false)
  | _ => false
theorem slcs_sound (hT : TRel S T a.tmps ss) {y : COpd} {lo hi : Option COpd} (ho : okSlcs P o.op y lo hi = true) (hs : ∀ t ∈ y.slots ++ optSlots lo ++ optSlots hi, t ∈ ss) {s : ByteArray} {l h : Option Nat}
    (h1 : evOpd T y = some (.str s)) (h2 : evNat T lo = some l) (h3 : evNat T hi = some h) (hx : evSlcs s l h = some x) : Gives P S w a o x := by
  unfold okSlcs at ho
  split at ho
  · rename_i t z lo' hi' e
    simp only [Bool.and_eq_true] at ho
    obtain ⟨⟨⟨h4, h5⟩, h6⟩, h7⟩ := ho
    split at h7
    · rename_i hu
      unfold evSlcs at hx
      split at hx
      · rename_i hb
        cases hx
        have hz := rep_str (opd_rep hT h4 (fun t ht => hs t (by simp [ht])) h1)
        have nl := natV_of hT h5 (fun t ht => hs t (by simp [ht])) h2
        have nh := natV_of hT h6 (fun t ht => hs t (by simp [ht])) h3
        refine ⟨_, ?_, .one (.s (.frz (.str _)))⟩
        simp [execOp, e, Instr.sliceAt, Instr.slice, run_underlying hu, hz, run_sliceBounds w false s.size s.size nl nh hb.2 hb.1]
      · cases hx
    · simp at h7
  · simp at ho

def okSlc (P : Program) (op : Op) (sz : Nat) (y : COpd) (lo hi mx : Option COpd) : Bool :=
  match op with
  | .slice t z l h m => okOpd z y && okOOpd l lo && okOOpd h hi && okOOpd m mx && (match P.underlying t with | some (.slice e) => decide (sizeT P e = some sz) | _ => false)
  | _ => false
theorem headOk_spec {sz sz' : Nat} {l : List (List AV)} (h : headOk sz l = true) (hr : ∀ (j : Nat) (r : List AV), l[j]? = some r → r.length = sz') (hne : l ≠ []) : sz' = sz := by
  cases l with
  | nil => exact absurd rfl hne
  | cons r l =>
    have := hr 0 r rfl
    simp [headOk] at h
    omega
theorem slc_sound (hW : WRel S w B) (hT : TRel S T a.tmps ss) {sz : Nat} {y : COpd} {lo hi mx : Option COpd} (ho : okSlc P o.op sz y lo hi mx = true) (hs : ∀ t ∈ y.slots ++ optSlots lo ++ optSlots hi ++ optSlots mx, t ∈ ss) {p : AV} {l h m : Option Nat}
    (h1 : evOpd T y = some p) (h2 : evNat T lo = some l) (h3 : evNat T hi = some h) (h4 : evNat T mx = some m) (hx : evSlc S.H sz p l h m = some x) : Gives P S w a o x := by
  unfold okSlc at ho
  split at ho
  · rename_i t z lo' hi' mx' e
    simp only [Bool.and_eq_true] at ho
    obtain ⟨⟨⟨⟨h5, h6⟩, h7⟩, h8⟩, h9⟩ := ho
    split at h9
    · rename_i el hu
      simp only [decide_eq_true_eq] at h9
      have hr := opd_rep hT h5 (fun t ht => hs t (by simp [ht])) h1
      have nl := natV_of hT h6 (fun t ht => hs t (by simp [ht])) h2
      have nh := natV_of hT h7 (fun t ht => hs t (by simp [ht])) h3
      have nm := natV_of hT h8 (fun t ht => hs t (by simp [ht])) h4
      have run2 : m = none → ∀ ad len cap, a.eval z = .slice ad len cap → h.getD len ≤ cap → l.getD 0 ≤ h.getD len →
          (execOp a.eval o).run P w = .ok (.value (.slice (if cap = l.getD 0 then ad else ad.map (·.add (l.getD 0 * sz))) (h.getD len - l.getD 0) (cap - l.getD 0))) w := by
        intro hm ad len cap hz c1 c2
        subst hm
        have hn : mx'.map a.eval = none := by
          rcases nm with ⟨h, _⟩ | ⟨_, _, _, _, h⟩
          · exact h
          · cases h
        simp only [execOp, e, Instr.sliceAt, Instr.slice, Sem.run_bind, run_underlying hu, Result.andThen_ok, hz, hn, run_sliceBounds w true len cap nl nh c1 c2, run_sizeT w h9, Sem.run_pure]
      have run3 : ∀ q, m = some q → h = some q → ∀ ad len cap, a.eval z = .slice ad len cap → q ≤ cap → l.getD 0 ≤ q →
          (execOp a.eval o).run P w = .ok (.value (.slice (if q = l.getD 0 then ad else ad.map (·.add (l.getD 0 * sz))) (q - l.getD 0) (q - l.getD 0))) w := by
        intro q hm hq ad len cap hz c1 c2
        subst hm
        subst hq
        simp only [execOp, e, Instr.sliceAt, Instr.slice, Sem.run_bind, run_underlying hu, Result.andThen_ok, hz, run_sliceBounds3 w len cap nl nh nm c1 c2, run_sizeT w h9, Sem.run_pure]
      unfold evSlc at hx
      split at hx
      · rename_i xs
        obtain ⟨ad, cap, hz, hcap, hbase, hnone⟩ := rep_lst hr
        split at hx
        · split at hx
          · rename_i hb
            obtain ⟨hb0, hb1, hb2⟩ := hb
            simp only [Option.some.injEq] at hx
            subst hx
            refine ⟨_, run2 rfl ad xs.length cap hz (by omega) hb1, ?_⟩
            have hlen : ((xs.take (h.getD xs.length)).drop (l.getD 0)).length = h.getD xs.length - l.getD 0 := by simp; omega
            by_cases hne : h.getD xs.length - l.getD 0 = 0
            · have hnil : (xs.take (h.getD xs.length)).drop (l.getD 0) = [] := List.eq_nil_of_length_eq_zero (by omega)
              rw [hnil, hne]
              refine .one (.s (.frz (.lst0 _ _ fun h0 => ?_)))
              have : ad = none := by
                split at h0
                · exact h0
                · simpa using h0
              have := hnone this
              omega
            · have hxs : xs ≠ [] := by intro h0; subst h0; simp at hb2; simp at hne; omega
              obtain ⟨ad, rfl⟩ := hbase hxs
              rw [if_neg (by omega)]
              rw [hz] at hr
              generalize hv : Value.slice (some ad) xs.length cap = vv at hr
              cases hr with
              | one hr => cases hr with
                | s hr => cases hr with
                  | frz hr => cases hr with
                    | lst0 => exact absurd rfl hxs
                    | lst _ g off sz' cap' cur uu c1 c2 c3 c4 c5 c6 =>
                      simp only [Value.slice.injEq, Option.some.injEq] at hv
                      obtain ⟨rfl, _, rfl⟩ := hv
                      have hsz : sz' = sz := headOk_spec hb0 c4 hxs
                      subst hsz
                      simp only [Option.map_some, Addr.add_lit]
                      rw [← hlen]
                      refine .one (.s (.frz (.lst _ g _ sz' _ cur (fun j c => uu (l.getD 0 + j) c) ?_ c2 ?_ ?_ ?_ ?_)))
                      · intro h0; rw [h0] at hlen; simp at hlen; omega
                      · omega
                      · intro j row hj
                        rw [List.getElem?_drop, List.getElem?_take] at hj
                        split at hj
                        · exact c4 _ _ hj
                        · cases hj
                      · intro j c row x hj hc
                        rw [List.getElem?_drop, List.getElem?_take] at hj
                        split at hj
                        · rw [← c5 _ c row x hj hc]
                          congr 1
                          rw [Nat.add_mul]; omega
                        · cases hj
                      · intro j c row x hj hc
                        rw [List.getElem?_drop, List.getElem?_take] at hj
                        split at hj
                        · exact c6 _ c row x hj hc
                        · cases hj
          · cases hx
        · rename_i q
          split at hx
          · rename_i hb
            obtain ⟨hb0, hb1, hb2⟩ := hb
            simp only [Option.some.injEq] at hx
            subst hx
            refine ⟨_, run3 q rfl hb0 ad xs.length cap hz (by omega) (by omega), ?_⟩
            rw [hb1]
            simp only [Nat.sub_self]
            exact .one (.s (.frz (.nil0 _)))
          · cases hx
      · rename_i b v s off len
        split at hx
        · rename_i hss
          subst hss
          obtain ⟨ad, cap, k, hz, hk, hv, hcap, hbase, hat⟩ := rep_ref hr
          split at hx
          · split at hx
            · rename_i hb
              obtain ⟨hb1, hb2⟩ := hb
              simp only [Option.some.injEq] at hx
              subst hx
              refine ⟨_, run2 rfl ad len cap hz (by omega) hb1, .one (.s (.ref _ _ _ _ _ _ _ k hk hv (by omega) ?_ fun d1 d2 d3 => ?_))⟩
              · split
                · exact hbase
                · simpa using hbase
              · obtain ⟨e1, e2⟩ := hat d1 d2 d3
                refine ⟨by omega, fun h0 => ?_⟩
                by_cases hl0 : l.getD 0 = 0
                · obtain ⟨g, rc, f1, f2, f3⟩ := e2 (by omega)
                  refine ⟨g, rc, f1, ?_, by omega⟩
                  rw [hl0, f2]
                  split
                  · simp
                  · simp [Addr.add_zero']
                · obtain ⟨g, rc, f1, f2, f3⟩ := e2 (by omega)
                  refine ⟨g, rc, f1, ?_, by omega⟩
                  rw [if_neg (by omega), f2]
                  simp [Nat.add_mul, Addr.add_lit]
            · split at hx
              · rename_i hlo hlh
                split at hx
                · rename_i k' hk'
                  split at hx
                  · rename_i hb
                    obtain ⟨hb1, hb2⟩ := hb
                    simp only [Option.some.injEq] at hx
                    subst hx
                    obtain ⟨d1, d2, d3, d4⟩ := curBlk_spec hk'
                    rw [d1] at hk
                    cases hk
                    obtain ⟨e1, e2⟩ := hat d2 d3 d4
                    obtain ⟨g, rc, f1, f2, f3⟩ := e2 hb2
                    obtain ⟨g', rc', cur, hB⟩ := hW.blk b k d1 d2
                    have hle := hB.le
                    rw [hB.mu] at f1
                    cases f1
                    refine ⟨_, run2 rfl ad len cap hz (by omega) hlh, .one (.s (.ref _ _ _ _ _ _ _ k d1 hv (by omega) ?_ fun _ _ _ => ?_))⟩
                    · split
                      · exact hbase
                      · simpa using hbase
                    · refine ⟨by omega, fun h0 => ⟨g, rc, hB.mu, ?_, by omega⟩⟩
                      by_cases hl0 : l.getD 0 = 0
                      · rw [hl0, f2]
                        split <;> simp [Addr.add_zero']
                      · rw [if_neg (by omega), f2]
                        simp [Nat.add_mul, Addr.add_lit]
                  · cases hx
                · cases hx
              · cases hx
          · rename_i q
            split at hx
            · rename_i hb
              obtain ⟨hb1, hb2⟩ := hb
              split at hx
              · rename_i hlt
                simp only [Option.some.injEq] at hx
                subst hx
                obtain ⟨ad, rfl⟩ := Option.isSome_iff_exists.1 hbase
                refine ⟨_, run3 q rfl hb1 (some ad) len cap hz (by omega) (by omega), ?_⟩
                rw [if_neg (by omega)]
                simp only [Option.map_some]
                refine .one (.s (.cref _ _ _ _ _ _ k hk hv fun d1 d2 d3 => ?_))
                obtain ⟨e1, e2⟩ := hat d1 d2 d3
                obtain ⟨g, rc, f1, f2, f3⟩ := e2 (by omega)
                cases f2
                exact ⟨by omega, g, rc, f1, by simp [Nat.add_mul, Addr.add_lit]⟩
              · split at hx
                · rename_i heq
                  simp only [Option.some.injEq] at hx
                  subst hx
                  refine ⟨_, run3 q rfl hb1 ad len cap hz (by omega) (by omega), ?_⟩
                  rw [heq]
                  simp only [Nat.sub_self]
                  exact .one (.s (.frz (.nil0 _)))
                · cases hx
            · split at hx
              · rename_i h' k' hk' _
                split at hx
                · rename_i hb
                  obtain ⟨hb1, hb2, hb3⟩ := hb
                  simp only [Option.some.injEq] at hx
                  subst hx
                  obtain ⟨d1, d2, d3, d4⟩ := curBlk_spec hk'
                  rw [d1] at hk
                  cases hk
                  have run4 : (execOp a.eval o).run P w = .ok (.value (.slice (if q = l.getD 0 then ad else ad.map (·.add (l.getD 0 * s))) (h' - l.getD 0) (q - l.getD 0))) w := by
                    simp only [execOp, e, Instr.sliceAt, Instr.slice, Sem.run_bind, run_underlying hu, Result.andThen_ok, hz, run_sliceBounds4 w len cap nl nh nm (show q ≤ cap by omega) hb1 hb2, run_sizeT w h9, Sem.run_pure]
                  refine ⟨_, run4, .one (.s (.ref _ _ _ _ _ _ _ _ d1 hv (by omega) ?_ fun _ _ d => ?_))⟩
                  · split
                    · exact hbase
                    · simpa using hbase
                  · exfalso; omega
                · cases hx
              · cases hx
        · cases hx
      · rename_i b v s off len
        split at hx
        · rename_i hss
          subst hss
          obtain ⟨ad, k, hz, hk, hv, hat⟩ := rep_cref hr
          split at hx
          · split at hx
            · rename_i hb
              split at hx
              · rename_i hlt
                simp only [Option.some.injEq] at hx
                subst hx
                refine ⟨_, run2 rfl (some ad) len len hz (by omega) (by omega), ?_⟩
                rw [if_neg (by omega), hb]
                simp only [Option.map_some]
                refine .one (.s (.cref _ _ _ _ _ _ k hk hv fun d1 d2 d3 => ?_))
                obtain ⟨e1, g, rc, f1, f2⟩ := hat d1 d2 d3
                subst f2
                exact ⟨by omega, g, rc, f1, by simp [Nat.add_mul, Addr.add_lit]⟩
              · split at hx
                · rename_i heq
                  simp only [Option.some.injEq] at hx
                  subst hx
                  refine ⟨_, run2 rfl (some ad) len len hz (by omega) (by omega), ?_⟩
                  rw [hb, heq]
                  simp only [Nat.sub_self]
                  exact .one (.s (.frz (.nil0 _)))
                · cases hx
            · cases hx
          · rename_i q
            split at hx
            · rename_i hb
              obtain ⟨hb1, hb2⟩ := hb
              split at hx
              · rename_i hlt
                simp only [Option.some.injEq] at hx
                subst hx
                refine ⟨_, run3 q rfl hb1 (some ad) len len hz (by omega) (by omega), ?_⟩
                rw [if_neg (by omega)]
                simp only [Option.map_some]
                refine .one (.s (.cref _ _ _ _ _ _ k hk hv fun d1 d2 d3 => ?_))
                obtain ⟨e1, g, rc, f1, f2⟩ := hat d1 d2 d3
                subst f2
                exact ⟨by omega, g, rc, f1, by simp [Nat.add_mul, Addr.add_lit]⟩
              · split at hx
                · rename_i heq
                  simp only [Option.some.injEq] at hx
                  subst hx
                  refine ⟨_, run3 q rfl hb1 (some ad) len len hz (by omega) (by omega), ?_⟩
                  rw [heq]
                  simp only [Nat.sub_self]
                  exact .one (.s (.frz (.nil0 _)))
                · cases hx
            · cases hx
        · cases hx
      · split at hx
        · rename_i hb
          obtain ⟨hb1, hb2, rfl⟩ := hb
          simp only [Option.some.injEq] at hx
          subst hx
          have hz := rep_nils hr
          refine ⟨_, run2 rfl none 0 0 hz (by omega) (by omega), ?_⟩
          rw [hb1, hb2]
          exact .one (.s (.frz .nils))
        · cases hx
      · split at hx
        · rename_i hb
          obtain ⟨hb1, hb2, rfl⟩ := hb
          simp only [Option.some.injEq] at hx
          subst hx
          obtain ⟨ad, cap, hz⟩ := rep_emp hr
          refine ⟨_, run2 rfl _ 0 cap hz (by omega) (by omega), ?_⟩
          rw [hb1, hb2]
          split
          · exact .one (.s (.frz (.emp _ _)))
          · exact .one (.s (.frz (.emp _ _)))
        · cases hx
      · split at hx
        · rename_i hb
          obtain ⟨hb1, hb2, rfl⟩ := hb
          simp only [Option.some.injEq] at hx
          subst hx
          obtain ⟨ad, hz⟩ := rep_nil0 hr
          refine ⟨_, run2 rfl _ 0 0 hz (by omega) (by omega), ?_⟩
          rw [hb1, hb2]
          exact .one (.s (.frz (.nil0 _)))
        · cases hx
      · cases hx
    · simp at h9
  · simp at ho

/-! building a struct or an array -/
theorem spl_length (cs : List AV) (off : Nat) (xs : List AV) : (spl cs off xs).length = cs.length := by
  induction xs generalizing cs off with
  | nil => rfl
  | cons x xs ih => simp [spl, ih]
theorem splice_rep {cs : List AV} {vs : List Value} (h : RepL S cs vs) : ∀ (xs : List AV) (us : List Value) (off : Nat), RepL S xs us → off + xs.length ≤ cs.length →
    RepL S (spl cs off xs) ((us.zipIdx).foldl (fun cs (p : Value × Nat) => cs.set (off + p.2) p.1) vs) := by
  have key : ∀ (xs : List AV) (us : List Value) (off n : Nat) (cs : List AV) (vs : List Value), RepL S cs vs → RepL S xs us → off + n + xs.length ≤ cs.length →
      RepL S (spl cs (off + n) xs) ((us.zipIdx n).foldl (fun cs (p : Value × Nat) => cs.set (off + p.2) p.1) vs) := by
    intro xs
    induction xs with
    | nil =>
      intro us off n cs vs h hu _
      have : us = [] := List.eq_nil_of_length_eq_zero (by rw [← hu.1]; rfl)
      subst this
      simpa [spl] using h
    | cons x xs ih =>
      intro us off n cs vs h hu hl
      cases us with
      | nil => have := hu.1; simp at this
      | cons u us =>
        simp only [spl, List.zipIdx_cons, List.foldl_cons]
        simp only [List.length_cons] at hl
        have := ih us off (n + 1) (cs.set (off + n) x) (vs.set (off + n) u) ⟨by simp [h.1], fun i y v hy hv => ?_⟩ ⟨by have := hu.1; simpa using this, fun i y v hy hv => hu.2 (i + 1) y v (by simpa using hy) (by simpa using hv)⟩ (by simp; omega)
        · rw [show off + n + 1 = off + (n + 1) by omega]; exact this
        · by_cases hi : i = off + n
          · subst hi
            have h1 : off + n < vs.length := by rw [← h.1]; omega
            have h2 : off + n < cs.length := by omega
            simp [List.getElem?_set, h1] at hv
            simp [List.getElem?_set, h2] at hy
            subst hy; subst hv
            exact hu.2 0 x u rfl rfl
          · rw [List.getElem?_set_ne (fun e => hi e.symm)] at hy hv
            exact h.2 i y v hy hv
  intro xs us off hx hl
  have := key xs us off 0 cs vs h hx (by simpa using hl)
  simpa using this
def okParts (P : Program) (place : Nat → Option (Nat × Nat)) : List (Nat × Operand) → List (Nat × Nat × COpd) → Bool
  | [], [] => true
  | (i, z) :: l, (off, size, y) :: m => decide (place i = some (off, size)) && okOpd z y && okParts P place l m
  | _, _ => false
def placesT (P : Program) (t : TypeId) : Option (Nat → Option (Nat × Nat)) :=
  match P.underlying t with
  | some (.array _ e) => (sizeT P e).map fun n i => some (i * n, n)
  | some (.struct fs) => (fs.toList.mapM fun f => (P.info? f.type).map fun i => (f.offset, i.size)).map fun l i => l.toArray[i]?
  | _ => none
def zeroT (P : Program) (t : TypeId) : Option (List Value) := (P.info? t).bind fun i => i.zero.map fun z => z.cells.toList
def okBuild (P : Program) (op : Op) (zero : List AV) (ps : List (Nat × Nat × COpd)) : Bool :=
  match op with
  | .build t qs => (match placesT P t, zeroT P t with
    | some f, some z => okCells z zero && okParts P f qs.toList ps
    | _, _ => false)
  | _ => false
theorem fill_rep (hT : TRel S T a.tmps ss) (place : Nat → Option (Nat × Nat)) : ∀ (qs : List (Nat × Operand)) (ps : List (Nat × Nat × COpd)) (cs : List AV) (vs : List Value) (ds : List AV), RepL S cs vs → okParts P place qs ps = true →
    (∀ t ∈ ps.flatMap (fun p => p.2.2.slots), t ∈ ss) → fillParts T cs ps = some ds →
    ∃ us : List Value, Instr.fill place vs.toArray (qs.map fun p => (p.1, a.eval p.2)) = some us.toArray ∧ RepL S ds us
  | [], [], cs, vs, ds, h, _, _, hf => by
    simp [fillParts] at hf
    subst hf
    exact ⟨vs, by simp [Instr.fill], h⟩
  | [], _ :: _, _, _, _, _, h, _, _ => by simp [okParts] at h
  | (_, _) :: _, [], _, _, _, _, h, _, _ => by simp [okParts] at h
  | (i, z) :: qs, (off, size, y) :: ps, cs, vs, ds, h, hok, hs, hf => by
    simp only [okParts, Bool.and_eq_true, decide_eq_true_eq] at hok
    obtain ⟨⟨h1, h2⟩, h3⟩ := hok
    simp only [fillParts] at hf
    cases hv : evOpd T y with
    | none => simp [hv] at hf
    | some v =>
      simp only [hv] at hf
      split at hf
      · rename_i hc
        obtain ⟨hc1, hc2, hc3⟩ := hc
        have hr := rep1_cells (rep1_of (opd_rep hT h2 (fun t ht => hs t (by simp [ht])) hv) hc3)
        have hcl := hr.1
        have ih := fill_rep hT place qs ps _ _ ds (splice_rep (S := S) h v.cells (a.eval z).cells.toList off hr (by omega)) h3 (fun t ht => hs t (by simp at ht ⊢; exact .inr ht)) hf
        obtain ⟨us, h4, h5⟩ := ih
        refine ⟨us, ?_, h5⟩
        have hsz : (a.eval z).cells.size = size := by rw [← Array.length_toList, ← hcl]; exact hc1
        have hvs : vs.length = cs.length := h.1.symm
        simp only [List.map_cons, Instr.fill, h1]
        rw [if_neg (by simp [hsz, hvs]; omega)]
        rw [← h4]
        congr 1
        apply Array.ext'
        have gen : ∀ (us : List (Value × Nat)) (vs : Array Value), (us.foldl (fun (cs : Array Value) (p : Value × Nat) => cs.setIfInBounds (off + p.2) p.1) vs).toList = us.foldl (fun cs (p : Value × Nat) => cs.set (off + p.2) p.1) vs.toList := by
          intro us
          induction us with
          | nil => intro vs; rfl
          | cons u us ih => intro vs; simp only [List.foldl_cons]; rw [ih]; simp
        have e2 := gen (a.eval z).cells.toList.zipIdx vs.toArray
        rw [← Array.foldl_toList, Array.toList_zipIdx]
        exact e2
      · cases hf
theorem build_sound (hT : TRel S T a.tmps ss) {zero : List AV} {ps : List (Nat × Nat × COpd)} (ho : okBuild P o.op zero ps = true) (hs : ∀ t ∈ ps.flatMap (fun p => p.2.2.slots), t ∈ ss) {ds : List AV} (hf : fillParts T zero ps = some ds) : Gives P S w a o (.agg ds) := by
  unfold okBuild at ho
  split at ho
  · rename_i t qs e
    split at ho
    · rename_i f z hp hz
      simp only [Bool.and_eq_true] at ho
      obtain ⟨us, h1, h2⟩ := fill_rep (P := P) hT f qs.toList ps zero z ds (okCells_rep S ho.1) ho.2 hs hf
      refine ⟨.agg us.toArray, ?_, .one (.agg _ _ h2)⟩
      have hbuilt : P.built t ((qs.map fun (p : Nat × Operand) => (p.1, a.eval p.2)).toList) = some us.toArray := by
        unfold placesT at hp
        unfold zeroT at hz
        unfold Program.built
        cases hi : P.info? t with
        | none => simp [hi] at hz
        | some it =>
          cases hzz : it.zero with
          | none => simp [hi, hzz] at hz
          | some zv =>
            simp only [hi, hzz, Option.map_some, Option.bind_some, Option.some.injEq] at hz
            have hz' : zv.cells = z.toArray := by rw [← hz]
            cases hu : P.underlying t with
            | none => simp [hu] at hp
            | some d =>
              simp only [hu] at hp
              have h1' : Instr.fill f zv.cells ((qs.map fun (p : Nat × Operand) => (p.1, a.eval p.2)).toList) = some us.toArray := by rw [hz']; simpa using h1
              split at hp
              · rename_i e n el heq
                simp only [Option.some.injEq] at heq
                subst heq
                unfold sizeT at hp
                cases hie : P.info? el with
                | none => simp [hie] at hp
                | some ie =>
                  simp only [hie, Option.map_some, Option.some.injEq] at hp
                  simp only [hi, hzz, hie]
                  rw [← hp] at h1'
                  exact h1'
              · rename_i e fs heq
                simp only [Option.some.injEq] at heq
                subst heq
                cases hm : fs.toList.mapM (fun f => (P.info? f.type).map fun i => (f.offset, i.size)) with
                | none => simp [hm] at hp
                | some pl =>
                  simp only [hm, Option.map_some, Option.some.injEq] at hp
                  simp only [hi, hzz, hm]
                  rw [← hp] at h1'
                  exact h1'
              · cases hp
      have := run_build (P := P) w t (qs.map fun (p : Nat × Operand) => (p.1, a.eval p.2)) us.toArray hbuilt
      simp only [execOp, e, Sem.run_bind]
      rw [show (Array.map (fun x => match x with | (i, x) => (i, a.eval x)) qs) = (qs.map fun (p : Nat × Operand) => (p.1, a.eval p.2)) from rfl, this]
      simp
    · simp at ho
  · simp at ho

def okPure (P : Program) (op : Op) : CO → Bool
  | .mv x => okMv P op x
  | .pick c x y => okPick op c x y
  | .build z ps => okBuild P op z ps
  | .load ag sz x => okLoad P op ag sz x
  | .nilck x => okNilck op x
  | .bin b x y => okBin op b x y
  | .eqb n x y => okEqb P op n x y
  | .eqs n ks x y => okEqs P op n ks x y
  | .eqn n k x y => okEqn P op n k x y
  | .un u x => okUn op u x
  | .convI k x => okConvI P op k x
  | .strid x => okStrid P op x
  | .b2s x => okB2s P op x
  | .mkfn f cs => okMkfn op f cs
  | .mkbnd f x => okMkbnd op f x
  | .slc sz x lo hi mx => okSlc P op sz x lo hi mx
  | .slcs x lo hi => okSlcs P op x lo hi
  | .faddr off x => okFaddr P op off x
  | .field ag off sz x => okField' P op ag off sz x
  | .iaddr sz x i => okIaddr P op sz x i
  | .iaddrA esz len x i => okIaddrA P op esz len x i
  | .idx x i => okIdx P op x i
  | .idxA ag esz len x i => okIdxA P op ag esz len x i
  | .extract x i => okExtract op x i
  | .len b x => okLen P op b x
  | .mm b x xs => okMM op b x xs
  | _ => false
theorem pure_sound (hW : WRel S w B) {co : CO} (hT : TRel S T a.tmps co.slots) (ho : okPure P o.op co = true) (hx : evPure T S.H co = some x) : Gives P S w a o x := by
  cases co with
  | mv y => exact mv_sound hT ho (fun _ h => h) hx
  | pick c y z => exact pick_sound hT ho (fun _ h => h) hx
  | box => simp [okPure] at ho
  | build z ps =>
    simp only [evPure] at hx
    cases hf : fillParts T z ps with
    | none => simp [hf] at hx
    | some ds =>
      simp only [hf, Option.map_some, Option.some.injEq] at hx
      subst hx
      exact build_sound hT ho (fun _ h => h) hf
  | bslice => simp [okPure] at ho
  | load ag sz y =>
    simp only [evPure] at hx
    split at hx
    · exact loads_sound hW hT ho (fun _ h => h) ‹_› hx
    · cases hx
  | store => simp [okPure] at ho
  | nilck y => exact nilck_sound hT ho (fun _ h => h) hx
  | bin op y z =>
    simp only [evPure] at hx
    split at hx
    · exact bin_sound hT ho (fun _ h => h) ‹_› ‹_› hx
    · cases hx
  | eqb n y z =>
    simp only [evPure] at hx
    split at hx
    · cases hx
      exact eqb_sound hT ho (fun _ h => h) ‹_› ‹_› rfl
    · cases hx
  | eqs n ks y z =>
    simp only [evPure] at hx
    split at hx
    · rename_i p q h1 h2
      cases hc : cellsEq ks p q with
      | none => simp [hc] at hx
      | some b =>
        simp only [hc, Option.map_some, Option.some.injEq] at hx
        exact eqs_sound hT ho (fun _ h => h) h1 h2 hc hx.symm
    · cases hx
  | eqn n k y z =>
    simp only [evPure] at hx
    split at hx
    · rename_i p q h1 h2
      cases hc : nilEq k p q with
      | none => simp [hc] at hx
      | some b =>
        simp only [hc, Option.map_some, Option.some.injEq] at hx
        exact eqn_sound hT ho (fun _ h => h) h1 h2 hc hx.symm
    · cases hx
  | un u y =>
    simp only [evPure] at hx
    split at hx
    · exact un_sound hT ho (fun _ h => h) ‹_› hx
    · cases hx
  | convI k y =>
    simp only [evPure] at hx
    split at hx
    · cases hx
      exact convI_sound hT ho (fun _ h => h) ‹_›
    · cases hx
  | strid y =>
    simp only [evPure] at hx
    split at hx
    · cases hx
      exact strid_sound hT ho (fun _ h => h) ‹_›
    · cases hx
  | b2s y =>
    simp only [evPure] at hx
    split at hx
    · rename_i p h1
      split at hx
      · rename_i l h2
        cases hb : rowBytes l with
        | none => simp [hb] at hx
        | some bs =>
          simp only [hb, Option.map_some, Option.some.injEq] at hx
          subst hx
          exact b2s_sound hW hT ho (fun _ h => h) h1 h2 hb
      · cases hx
    · cases hx
  | mkfn f cs =>
    simp only [evPure] at hx
    split at hx
    · rename_i l h1
      split at hx
      · rename_i h2
        cases hx
        exact mkfn_sound hT ho (fun _ h => h) h1 h2
      · cases hx
    · cases hx
  | mkbnd f y =>
    simp only [evPure] at hx
    split at hx
    · rename_i cs h1
      split at hx
      · rename_i h2
        cases hx
        exact mkbnd_sound hT ho (fun _ h => h) h1 h2
      · cases hx
    · cases hx
  | mks => simp [okPure] at ho
  | slc sz y lo hi mx =>
    simp only [evPure] at hx
    split at hx
    · exact slc_sound hW hT ho (fun _ h => h) ‹_› ‹_› ‹_› ‹_› hx
    · cases hx
  | slcs y lo hi =>
    simp only [evPure] at hx
    split at hx
    · exact slcs_sound hT ho (fun _ h => h) ‹_› ‹_› ‹_› hx
    · cases hx
  | faddr off y => exact faddr_sound hT ho (fun _ h => h) hx
  | field ag off sz y =>
    simp only [evPure] at hx
    split at hx
    · exact field_sound hT ho (fun _ h => h) ‹_› hx
    · cases hx
  | iaddr sz y i => exact iaddr_sound hW hT ho (fun _ h => h) hx
  | iaddrA esz len y i => exact iaddrA_sound hT ho (fun _ h => h) hx
  | idx y i =>
    simp only [evPure] at hx
    split at hx
    · split at hx
      · split at hx
        · cases hx
          exact idx_sound hT ho (fun _ h => h) ‹_› ‹_› ‹_› ‹_›
        · cases hx
      · cases hx
    · cases hx
  | idxA ag esz len y i =>
    simp only [evPure] at hx
    split at hx
    · split at hx
      · split at hx
        · exact idxA_sound hT ho (fun _ h => h) ‹_› ‹_› ‹_› ‹_› hx
        · cases hx
      · cases hx
    · cases hx
  | extract y i =>
    simp only [evPure] at hx
    split at hx
    · exact extract_sound hT ho (fun _ h => h) ‹_› hx
    · cases hx
  | call => simp [okPure] at ho
  | qcall => simp [okPure] at ho
  | flst => simp [okPure] at ho
  | fapp => simp [okPure] at ho
  | len b y => exact len_sound hT ho (fun _ h => h) hx
  | app => simp [okPure] at ho
  | copy => simp [okPure] at ho
  | clear => simp [okPure] at ho
  | mm b y ys =>
    simp only [evPure] at hx
    split at hx
    · exact mm_sound hT ho (fun _ h => h) ‹_› ‹_› hx
    · cases hx
end ops
end Go.Proofs.YtbdpceigmnpoaaaGreatDoor.Ev
