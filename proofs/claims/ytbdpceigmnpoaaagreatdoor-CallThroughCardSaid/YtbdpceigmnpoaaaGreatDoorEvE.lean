/- The operations that only read, second part, and all of them together. -/
import Derived.Test.YtbdpceigmnpoaaaGreatDoorEvD
set_option linter.unusedSimpArgs false
set_option linter.unusedVariables false
namespace Go.Proofs.YtbdpceigmnpoaaaGreatDoor.Ev
open Go.RowKit

section ops
variable {P : Program} {S : Sta} {w : World} {B : Nat} {T : Env} {a : Act} {ss : List Nat} {o : Oper} {x : AV}

def okUn (op' : Op) (op : UnOp) (y : COpd) : Bool :=
  match op' with
  | .unOp op'' _ z => decide (op'' = op) && okOpd z y
  | _ => false
theorem un_sound (hT : TRel S T a.tmps ss) {op : UnOp} {y : COpd} (ho : okUn o.op op y = true) (hs : ∀ t ∈ y.slots, t ∈ ss) {p : AV} (h1 : evOpd T y = some p) (hx : evUn op p = some x) : Gives P S w a o x := by
  unfold okUn at ho
  split at ho
  · rename_i op'' _ z e
    simp only [Bool.and_eq_true, decide_eq_true_eq] at ho
    obtain ⟨rfl, h2⟩ := ho
    have hr := opd_rep hT h2 hs h1
    unfold evUn at hx
    split at hx
    · split at hx
      · cases hx
        exact ⟨_, by simp [execOp, e, rep_int hr, Op.unary, Op.intArith], .one (.s (.frz (.int _ _)))⟩
      · cases hx
    · split at hx
      · cases hx
        exact ⟨_, by simp [execOp, e, rep_bool hr, Op.unary], .one (.s (.frz (.bool _)))⟩
      · cases hx
    · cases hx
  · simp at ho

def okConvI (P : Program) (op : Op) (k : IntKind) (y : COpd) : Bool :=
  match op with
  | .convert s d z => okOpd z y && (P.underlying s).isSome && (match P.underlying d with | some (.int k') => decide (k' = k) | _ => false)
  | _ => false
theorem convI_sound (hT : TRel S T a.tmps ss) {k : IntKind} {y : COpd} (ho : okConvI P o.op k y = true) (hs : ∀ t ∈ y.slots, t ∈ ss) {k' : IntKind} {n : Int} (h1 : evOpd T y = some (.int k' n)) : Gives P S w a o (.int k (k.wrap n)) := by
  unfold okConvI at ho
  split at ho
  · rename_i s d z e
    simp only [Bool.and_eq_true] at ho
    obtain ⟨⟨h2, h3⟩, h4⟩ := ho
    have hr := rep_int (opd_rep hT h2 hs h1)
    obtain ⟨ds, hds⟩ := Option.isSome_iff_exists.1 h3
    split at h4
    · rename_i k'' hd
      simp only [decide_eq_true_eq] at h4
      subst h4
      exact ⟨_, by simp [execOp, e, hr, convert, run_underlying hds, run_underlying hd, Conv.intToInt], .one (.s (.frz (.int _ _)))⟩
    · simp at h4
  · simp at ho

def okStrid (P : Program) (op : Op) (y : COpd) : Bool :=
  match op with
  | .convert s d z => okOpd z y && (match P.underlying s with | some .string => true | _ => false) && (match P.underlying d with | some .string => true | _ => false)
  | _ => false
theorem strid_sound (hT : TRel S T a.tmps ss) {y : COpd} (ho : okStrid P o.op y = true) (hs : ∀ t ∈ y.slots, t ∈ ss) {s : ByteArray} (h1 : evOpd T y = some (.str s)) : Gives P S w a o (.str s) := by
  unfold okStrid at ho
  split at ho
  · rename_i s' d z e
    simp only [Bool.and_eq_true] at ho
    obtain ⟨⟨h2, h3⟩, h4⟩ := ho
    have hr := rep_str (opd_rep hT h2 hs h1)
    split at h3
    · rename_i hs'
      split at h4
      · rename_i hd
        exact ⟨_, by simp [execOp, e, hr, convert, run_underlying hs', run_underlying hd], .one (.s (.frz (.str _)))⟩
      · simp at h4
    · simp at h3
  · simp at ho

def okB2s (P : Program) (op : Op) (y : COpd) : Bool :=
  match op with
  | .convert s d z => okOpd z y && (match P.underlying s with | some (.slice e) => (match P.underlying e with | some (.int .u8) => decide (sizeT P e = some 1) | _ => false) | _ => false) && (match P.underlying d with | some .string => true | _ => false)
  | _ => false
theorem rowBytes_spec : ∀ {l : List (List AV)} {bs : List UInt8}, rowBytes l = some bs → ∃ ns : List Int, l = ns.map (fun n => [AV.int .u8 n]) ∧ bs = ns.map fun n => UInt8.ofNat n.toNat
  | [], bs, h => by simp [rowBytes] at h; subst h; exact ⟨[], rfl, rfl⟩
  | r :: l, bs, h => by
    unfold rowBytes at h
    split at h
    · simp_all
    · rename_i n l' e
      simp only [List.cons.injEq] at e
      obtain ⟨rfl, rfl⟩ := e
      cases hl : rowBytes l with
      | none => simp [hl] at h
      | some b =>
        simp only [hl, Option.map_some, Option.some.injEq] at h
        obtain ⟨ns, h1, h2⟩ := rowBytes_spec hl
        exact ⟨n :: ns, by simp [h1], by rw [← h, h2]; rfl⟩
    · cases h
theorem foldl_push (ns : List Int) : ∀ (s : ByteArray), ns.foldl (fun r n => r.push (UInt8.ofNat n.toNat)) s = ⟨s.data ++ (ns.map fun n => UInt8.ofNat n.toNat).toArray⟩ := by
  induction ns with
  | nil => intro s; simp
  | cons n ns ih =>
    intro s
    rw [List.foldl_cons, ih]
    apply data_ext
    simp [ByteArray.push]
theorem b2s_sound (hW : WRel S w B) (hT : TRel S T a.tmps ss) {y : COpd} (ho : okB2s P o.op y = true) (hs : ∀ t ∈ y.slots, t ∈ ss) {p : AV} {l : List (List AV)} {bs : List UInt8} (h1 : evOpd T y = some p) (hl : rowsOf S.H p = some l) (hb : rowBytes l = some bs) :
    Gives P S w a o (.str ⟨bs.toArray⟩) := by
  unfold okB2s at ho
  split at ho
  · rename_i s' d z e
    simp only [Bool.and_eq_true] at ho
    obtain ⟨⟨h2, h3⟩, h4⟩ := ho
    have hr := opd_rep hT h2 hs h1
    split at h3
    · rename_i el hs'
      split at h3
      · rename_i he
        simp only [decide_eq_true_eq] at h3
        split at h4
        · rename_i hd
          obtain ⟨ad, cap, sz, hu, hR⟩ := rows_sound hW hr hl
          obtain ⟨ns, rfl, rfl⟩ := rowBytes_spec hb
          refine ⟨.string ⟨(ns.map fun n => UInt8.ofNat n.toNat).toArray⟩, ?_, .one (.s (.frz (.str _)))⟩
          simp only [execOp, e, hu, Sem.run_bind]
          rw [run_convert_bytes_string w s' d el ad _ cap hs' he hd]
          cases ad with
          | none =>
            have hnil : ns = [] := by
              cases ns with
              | nil => rfl
              | cons n ns => obtain ⟨x, hx⟩ := hR.base (by simp); cases hx
            subst hnil
            simp [Conv.bytesToString, ByteArray.empty, ByteArray.emptyWithCapacity]
            rfl
          | some ad =>
            have hload : (loadCells ad (ns.map fun n => [AV.int .u8 n]).length).run P w = .ok (ns.map (Value.int .u8)).toArray w := by
              have e1 : (ns.map fun n => [AV.int .u8 n]).length = (ns.map (Value.int .u8)).length := by simp
              rw [e1]
              refine run_loadCells_list w ad (ns.map (Value.int .u8)) fun j v hv => ?_
              rw [List.getElem?_map] at hv
              cases hn : ns[j]? with
              | none => simp [hn] at hv
              | some n =>
                simp only [hn, Option.map_some, Option.some.injEq] at hv
                subst hv
                have hj1 : (ns.map fun n => [AV.int .u8 n])[j]? = some [AV.int .u8 n] := by simp [hn]
                have hsz := hR.row j _ hj1
                obtain ⟨u, hu, hru⟩ := hR.cell ad rfl j 0 _ _ hj1 rfl
                have := rep_int (.one (.s hru))
                subst this
                simp at hsz
                subst hsz
                simpa using hu
            rw [run_bytesToString w ad _ cap ns hload, foldl_push]
            simp [ByteArray.empty, ByteArray.emptyWithCapacity]
            rfl
        · simp at h4
      · simp at h3
    · simp at h3
  · simp at ho

def okMkfn (op : Op) (f : Nat) (ys : List COpd) : Bool :=
  match op with
  | .makeFunc (.func f') first zs => decide (f' = f) && first.isEmpty && okOpds zs.toList ys
  | _ => false
theorem mkfn_sound (hT : TRel S T a.tmps ss) {f : Nat} {ys : List COpd} (ho : okMkfn o.op f ys = true) (hs : ∀ t ∈ ys.flatMap COpd.slots, t ∈ ss) {cs : List AV} (h1 : evOpds T ys = some cs) (hc : cs.all AV.scal = true) : Gives P S w a o (.fn f cs) := by
  unfold okMkfn at ho
  split at ho
  · rename_i f' first zs e
    simp only [Bool.and_eq_true, decide_eq_true_eq, Array.isEmpty_iff] at ho
    obtain ⟨⟨rfl, rfl⟩, h2⟩ := ho
    obtain ⟨h3, h4⟩ := opds_rep hT h2 hs h1
    refine ⟨.func (.func f') #[] (zs.toList.map a.eval).toArray, ?_, .one (.s (.fn _ _ _ (by simp [h3]) fun i x v hx hv => ?_))⟩
    · simp only [execOp, e, Instr.makeFunc]
      have : (zs.toList.map a.eval).toArray = zs.map a.eval := Array.ext' (by simp)
      rw [this]
      simp
    · have hr := h4 i x v hx hv
      have hm := List.all_eq_true.1 hc x (List.mem_of_getElem? hx)
      cases hr with
      | one hr => cases hr with
        | s hr => exact hr
        | agg => simp [AV.scal] at hm
      | tup => simp [AV.scal] at hm
  · simp at ho

def okMkbnd (op : Op) (f : Nat) (y : COpd) : Bool :=
  match op with
  | .makeFunc (.func f') first zs => decide (f' = f) && zs.isEmpty && okOpds first.toList [y]
  | _ => false
theorem mkbnd_sound (hT : TRel S T a.tmps ss) {f : Nat} {y : COpd} (ho : okMkbnd o.op f y = true) (hs : ∀ t ∈ y.slots, t ∈ ss) {cs : List AV} (h1 : evOpd T y = some (.agg cs)) (hc : cs.all AV.lit = true) : Gives P S w a o (.fn f [.tup [], .agg cs]) := by
  unfold okMkbnd at ho
  split at ho
  · rename_i f' first zs e
    simp only [Bool.and_eq_true, decide_eq_true_eq, Array.isEmpty_iff] at ho
    obtain ⟨⟨rfl, rfl⟩, h2⟩ := ho
    obtain ⟨h3, h4⟩ := opds_rep hT h2 (by simpa using hs) (show evOpds T [y] = some [.agg cs] by simp only [evOpds, h1])
    obtain ⟨z, hz⟩ : ∃ z, first.toList = [z] := List.length_eq_one_iff.1 (by simpa using h3.symm)
    rw [hz] at h4
    have hr := h4 0 (.agg cs) (a.eval z) rfl rfl
    obtain ⟨vs, hv, hl⟩ := rep_agg hr
    refine ⟨.func (.func f') #[.agg vs.toArray] #[], ?_, .one (.s (.frz (.bnd _ _ _ hl.1 fun i x v hx hv => ?_)))⟩
    · have hf : first = #[z] := Array.ext' (by simp [hz])
      simp [execOp, e, Instr.makeFunc, hf, hv]
    · have hrx := hl.2 i x v hx hv
      have hm := List.all_eq_true.1 hc x (List.mem_of_getElem? hx)
      cases hrx with
      | frz h => exact h
      | _ => simp [AV.lit] at hm
  · simp at ho

def okFaddr (P : Program) (op : Op) (off : Nat) (y : COpd) : Bool :=
  match op with
  | .fieldAddr s z f => okOpd z y && (match P.underlying s with
    | some (.struct fs) => (match fs[f]? with
      | some fd => decide (fd.offset = off) && (match sizeT P fd.type with | some n => decide (n ≠ 0) | none => false)
      | none => false)
    | _ => false)
  | _ => false
theorem faddr_sound (hT : TRel S T a.tmps ss) {off : Nat} {y : COpd} (ho : okFaddr P o.op off y = true) (hs : ∀ t ∈ y.slots, t ∈ ss) (hx : evPure T S.H (.faddr off y) = some x) : Gives P S w a o x := by
  unfold okFaddr at ho
  split at ho
  · rename_i s z f e
    simp only [Bool.and_eq_true] at ho
    obtain ⟨h2, h3⟩ := ho
    split at h3
    · rename_i fs hu
      split at h3
      · rename_i fd hf
        simp only [Bool.and_eq_true, decide_eq_true_eq] at h3
        obtain ⟨rfl, h4⟩ := h3
        split at h4
        · rename_i n hn
          simp only [decide_eq_true_eq] at h4
          have run : ∀ g oo, a.eval z = .pointer (some ⟨g, oo, none⟩) → (execOp a.eval o).run P w = .ok (.value (.pointer (some ⟨g, oo + fd.offset, none⟩))) w := by
            intro g oo hz
            simp [execOp, e, Instr.fieldAt, run_underlying hu, hf, hz, Instr.sureAddr, fieldPlace, run_sizeT w hn, h4, Addr.add_lit]
          have run' : ∀ ad, a.eval z = .pointer (some ad) → (execOp a.eval o).run P w = .ok (.value (.pointer (some (ad.add fd.offset)))) w := by
            intro ad hz
            simp [execOp, e, Instr.fieldAt, run_underlying hu, hf, hz, Instr.sureAddr, fieldPlace, run_sizeT w hn, h4]
          simp only [evPure] at hx
          split at hx
          · rename_i b v sz i oo h1
            cases hx
            obtain ⟨ad, k, h5, h6, h7, h8⟩ := rep_ptr (opd_rep hT h2 hs h1)
            refine ⟨_, run' ad h5, .one (.s (.ptr _ _ _ _ _ _ k h6 h7 fun c1 c2 c3 => ?_))⟩
            obtain ⟨g, rc, hm, rfl⟩ := h8 c1 c2 c3
            exact ⟨g, rc, hm, by rw [Addr.add_lit, Nat.add_assoc]⟩
          · rename_i cs h1
            cases hx
            obtain ⟨g, oo, cur, uu, h5, h6, h7, h8⟩ := rep_fptr (opd_rep hT h2 hs h1)
            refine ⟨_, run g oo h5, .one (.s (.frz (.fptr _ g _ cur (fun c => uu (fd.offset + c)) h6 (fun c x hc => ?_) fun c x hc => ?_)))⟩
            · rw [List.getElem?_drop] at hc
              rw [Nat.add_assoc]; exact h7 _ x hc
            · rw [List.getElem?_drop] at hc
              exact h8 _ x hc
          · cases hx
        · simp at h4
      · simp at h3
    · simp at h3
  · simp at ho

def okField' (P : Program) (op : Op) (ag : Bool) (off sz : Nat) (y : COpd) : Bool :=
  match op with
  | .field s z f => okOpd z y && (match P.underlying s with
    | some (.struct fs) => (match fs[f]? with
      | some fd => decide (fd.offset = off) && decide (sizeT P fd.type = some sz) && decide (aggT P fd.type = some ag)
      | none => false)
    | _ => false)
  | _ => false
theorem run_part {cs : List AV} {vs : List Value} (hr : RepL S cs vs) {t : TypeId} {ag : Bool} {off sz : Nat} (hs : sizeT P t = some sz) (ha : aggT P t = some ag)
    (hx : (if ag = true then (if off + sz ≤ cs.length then some (.agg ((cs.drop off).take sz)) else none) else cs[off]?) = some x) :
    ∃ v, (part t vs.toArray off).run P w = .ok v w ∧ RepV S x v := by
  cases ag with
  | true =>
    simp only [if_true] at hx
    split at hx
    · cases hx
      refine ⟨.agg ((vs.drop off).take sz).toArray, ?_, .one (.agg _ _ (repL_seg hr off sz))⟩
      simp only [part, Sem.run_bind, run_aggT w ha, Result.andThen_ok, if_true, run_sizeT w hs, Sem.run_pure]
      congr 2
      apply Array.ext'
      simp [Array.toList_extract, List.extract_eq_take_drop]
    · cases hx
  | false =>
    simp only [Bool.false_eq_true, if_false] at hx
    obtain ⟨v, hv, hrv⟩ := repL_get hr hx
    exact ⟨v, by simp [part, run_aggT w ha, hv], .one (.s hrv)⟩
theorem field_sound (hT : TRel S T a.tmps ss) {ag : Bool} {off sz : Nat} {y : COpd} (ho : okField' P o.op ag off sz y = true) (hs : ∀ t ∈ y.slots, t ∈ ss) {cs : List AV} (h1 : evOpd T y = some (.agg cs))
    (hx : (if ag = true then (if off + sz ≤ cs.length then some (.agg ((cs.drop off).take sz)) else none) else cs[off]?) = some x) : Gives P S w a o x := by
  unfold okField' at ho
  split at ho
  · rename_i s z f e
    simp only [Bool.and_eq_true] at ho
    obtain ⟨h2, h3⟩ := ho
    split at h3
    · rename_i fs hu
      split at h3
      · rename_i fd hf
        simp only [Bool.and_eq_true, decide_eq_true_eq] at h3
        obtain ⟨⟨rfl, h4⟩, h5⟩ := h3
        obtain ⟨vs, h6, h7⟩ := rep_agg (opd_rep hT h2 hs h1)
        obtain ⟨v, h8, h9⟩ := run_part (P := P) (w := w) h7 h4 h5 hx
        exact ⟨v, by simp [execOp, e, Instr.field, run_underlying hu, hf, h6, asAgg, h8], h9⟩
      · simp at h3
    · simp at h3
  · simp at ho

def okIaddr (P : Program) (op : Op) (sz : Nat) (y i : COpd) : Bool :=
  match op with
  | .indexAddr t z j => okOpd z y && okOpd j i && (match P.underlying t with | some (.slice e) => decide (sizeT P e = some sz) | _ => false)
  | _ => false
theorem iaddr_sound (hW : WRel S w B) (hT : TRel S T a.tmps ss) {sz : Nat} {y i : COpd} (ho : okIaddr P o.op sz y i = true) (hs : ∀ t ∈ y.slots ++ i.slots, t ∈ ss) (hx : evPure T S.H (.iaddr sz y i) = some x) : Gives P S w a o x := by
  unfold okIaddr at ho
  split at ho
  · rename_i t z j e
    simp only [Bool.and_eq_true] at ho
    obtain ⟨⟨h2, h3⟩, h4⟩ := ho
    split at h4
    · rename_i el hu
      simp only [decide_eq_true_eq] at h4
      have run : ∀ ad len cap k m, a.eval z = .slice (some ad) len cap → a.eval j = .int k m → 0 ≤ m → m < len → (execOp a.eval o).run P w = .ok (.value (.pointer (some (ad.add (m.toNat * sz))))) w := by
        intro ad len cap k m hz hj h0 hl
        simp [execOp, e, Instr.indexAt, run_underlying hu, hz, hj, asIntOf, run_sizeT w h4, h0, hl]
      simp only [evPure] at hx
      split at hx
      · rename_i l iv h5 h6
        split at hx
        · rename_i n h7
          split at hx
          · rename_i row h8
            split at hx
            · rename_i h9
              cases hx
              obtain ⟨k, m, rfl, h0, rfl⟩ := asNat_spec h7
              have hi := rep_int (opd_rep hT h3 (fun t ht => hs t (by simp [ht])) h6)
              have hl := opd_rep hT h2 (fun t ht => hs t (by simp [ht])) h5
              have hlt := (List.getElem?_eq_some_iff.1 h8).1
              obtain ⟨ad, cap, sz', hu', hR⟩ := rows_sound hW hl (l := l) rfl
              have hne : l ≠ [] := by intro h; subst h; simp at hlt
              obtain ⟨ad, rfl⟩ := hR.base hne
              have hsz : sz' = sz := by rw [← hR.row _ _ h8]; exact h9
              subst hsz
              refine ⟨_, run ad _ cap k m hu' hi h0 (by omega), ?_⟩
              cases hl with
              | one hl => cases hl with
                | s hl => cases hl with
                  | frz hl =>
                    rw [hu'] at hl
                    generalize hv : Value.slice (some ad) l.length cap = vv at hl
                    cases hl with
                    | lst0 => exact absurd rfl hne
                    | lst _ g off sz'' cap' cur uu c1 c2 c3 c4 c5 c6 =>
                      simp only [Value.slice.injEq, Option.some.injEq] at hv
                      obtain ⟨rfl, _, rfl⟩ := hv
                      have : sz'' = sz' := by rw [← c4 _ _ h8]; exact h9
                      subst this
                      rw [Addr.add_lit]
                      refine .one (.s (.frz (.fptr _ g _ cur (fun c => uu m.toNat c) c2 (fun c x hc => ?_) fun c x hc => c6 _ c _ x h8 hc)))
                      rw [Nat.add_assoc]
                      exact c5 _ c _ x h8 hc
            · cases hx
          · cases hx
        · cases hx
      · rename_i b v s off len iv h5 h6
        split at hx
        · rename_i n h7
          split at hx
          · rename_i h8
            cases hx
            obtain ⟨hn, rfl⟩ := h8
            obtain ⟨k, m, rfl, h0, rfl⟩ := asNat_spec h7
            have hi := rep_int (opd_rep hT h3 (fun t ht => hs t (by simp [ht])) h6)
            obtain ⟨ad, cap, kb, hu', h9, h10, h11, h12, h13⟩ := rep_ref (opd_rep hT h2 (fun t ht => hs t (by simp [ht])) h5)
            obtain ⟨ad, rfl⟩ := Option.isSome_iff_exists.1 h12
            refine ⟨_, run ad _ cap k m hu' hi h0 (by omega), .one (.s (.ptr _ _ _ _ _ _ kb h9 h10 fun c1 c2 c3 => ?_))⟩
            obtain ⟨c4, c5⟩ := h13 c1 c2 c3
            obtain ⟨g, rc, hm, ha, _⟩ := c5 (.inl (by omega))
            cases ha
            exact ⟨g, rc, hm, by rw [Addr.add_lit]; simp [Nat.add_mul]⟩
          · cases hx
        · cases hx
      · rename_i b v s off len iv h5 h6
        split at hx
        · rename_i n h7
          split at hx
          · rename_i h8
            cases hx
            obtain ⟨hn, rfl⟩ := h8
            obtain ⟨k, m, rfl, h0, rfl⟩ := asNat_spec h7
            have hi := rep_int (opd_rep hT h3 (fun t ht => hs t (by simp [ht])) h6)
            obtain ⟨ad, kb, hu', h9, h10, h13⟩ := rep_cref (opd_rep hT h2 (fun t ht => hs t (by simp [ht])) h5)
            refine ⟨_, run ad _ _ k m hu' hi h0 (by omega), .one (.s (.ptr _ _ _ _ _ _ kb h9 h10 fun c1 c2 c3 => ?_))⟩
            obtain ⟨c4, g, rc, hm, rfl⟩ := h13 c1 c2 c3
            exact ⟨g, rc, hm, by rw [Addr.add_lit]; simp [Nat.add_mul]⟩
          · cases hx
        · cases hx
      · cases hx
    · simp at h4
  · simp at ho

def okIaddrA (P : Program) (op : Op) (esz len : Nat) (y i : COpd) : Bool :=
  match op with
  | .indexAddr t z j => okOpd z y && okOpd j i && (match P.underlying t with | some (.array n e) => decide (n = len) && decide (sizeT P e = some esz) | _ => false)
  | _ => false
theorem iaddrA_sound (hT : TRel S T a.tmps ss) {esz len : Nat} {y i : COpd} (ho : okIaddrA P o.op esz len y i = true) (hs : ∀ t ∈ y.slots ++ i.slots, t ∈ ss) (hx : evPure T S.H (.iaddrA esz len y i) = some x) : Gives P S w a o x := by
  unfold okIaddrA at ho
  split at ho
  · rename_i t z j e
    simp only [Bool.and_eq_true] at ho
    obtain ⟨⟨h2, h3⟩, h4⟩ := ho
    split at h4
    · rename_i n' el hu
      simp only [Bool.and_eq_true, decide_eq_true_eq] at h4
      obtain ⟨rfl, h4⟩ := h4
      have run : ∀ ad k m, a.eval z = .pointer (some ad) → a.eval j = .int k m → 0 ≤ m → m < n' → (execOp a.eval o).run P w = .ok (.value (.pointer (some (ad.add (m.toNat * esz))))) w := by
        intro ad k m hz hj h0 hl
        simp [execOp, e, Instr.indexAt, run_underlying hu, hz, hj, asIntOf, run_sizeT w h4, h0, hl, Instr.sureAddr]
      simp only [evPure] at hx
      split at hx
      · rename_i b v s jj oo iv h5 h6
        split at hx
        · rename_i n h7
          split at hx
          · rename_i h8
            cases hx
            obtain ⟨k, m, rfl, h0, rfl⟩ := asNat_spec h7
            have hi := rep_int (opd_rep hT h3 (fun t ht => hs t (by simp [ht])) h6)
            obtain ⟨ad, kb, hu', h9, h10, h13⟩ := rep_ptr (opd_rep hT h2 (fun t ht => hs t (by simp [ht])) h5)
            refine ⟨_, run ad k m hu' hi h0 (by omega), .one (.s (.ptr _ _ _ _ _ _ kb h9 h10 fun c1 c2 c3 => ?_))⟩
            obtain ⟨g, rc, hm, rfl⟩ := h13 c1 c2 c3
            exact ⟨g, rc, hm, by rw [Addr.add_lit, Nat.add_assoc]⟩
          · cases hx
        · cases hx
      · rename_i cs iv h5 h6
        split at hx
        · rename_i n h7
          split at hx
          · rename_i h8
            cases hx
            obtain ⟨k, m, rfl, h0, rfl⟩ := asNat_spec h7
            have hi := rep_int (opd_rep hT h3 (fun t ht => hs t (by simp [ht])) h6)
            obtain ⟨g, oo, cur, uu, h9, h10, h11, h12⟩ := rep_fptr (opd_rep hT h2 (fun t ht => hs t (by simp [ht])) h5)
            refine ⟨_, run _ k m h9 hi h0 (by omega), ?_⟩
            rw [Addr.add_lit]
            refine .one (.s (.frz (.fptr _ g _ cur (fun c => uu (m.toNat * esz + c)) h10 (fun c x hc => ?_) fun c x hc => ?_)))
            · rw [List.getElem?_drop] at hc
              rw [Nat.add_assoc]; exact h11 _ x hc
            · rw [List.getElem?_drop] at hc
              exact h12 _ x hc
          · cases hx
        · cases hx
      · cases hx
    · simp at h4
  · simp at ho

def okIdx (P : Program) (op : Op) (y i : COpd) : Bool :=
  match op with
  | .index t z j => okOpd z y && okOpd j i && (match P.underlying t with | some .string => true | _ => false)
  | _ => false
theorem idx_sound (hT : TRel S T a.tmps ss) {y i : COpd} (ho : okIdx P o.op y i = true) (hs : ∀ t ∈ y.slots ++ i.slots, t ∈ ss) {s : ByteArray} {iv : AV} {n : Nat} {b : UInt8} (h5 : evOpd T y = some (.str s)) (h6 : evOpd T i = some iv) (h7 : asNat iv = some n) (h8 : s.data.toList[n]? = some b) : Gives P S w a o (.int .u8 b.toNat) := by
  unfold okIdx at ho
  split at ho
  · rename_i t z j e
    simp only [Bool.and_eq_true] at ho
    obtain ⟨⟨h2, h3⟩, h4⟩ := ho
    split at h4
    · rename_i hu
      obtain ⟨k, m, rfl, h0, rfl⟩ := asNat_spec h7
      have hi := rep_int (opd_rep hT h3 (fun t ht => hs t (by simp [ht])) h6)
      have hz := rep_str (opd_rep hT h2 (fun t ht => hs t (by simp [ht])) h5)
      have hb : s[m.toNat]? = some b := by
        have hlt := (List.getElem?_eq_some_iff.1 h8)
        obtain ⟨hlt, he⟩ := hlt
        have hlt' : m.toNat < s.size := by simpa using hlt
        rw [getElem?_pos s m.toNat hlt']
        simp only [Array.getElem_toList] at he
        rw [← he]
        rfl
      exact ⟨_, by simp [execOp, e, Instr.index, run_underlying hu, hz, hi, asIntOf, h0, hb], .one (.s (.frz (.int _ _)))⟩
    · simp at h4
  · simp at ho

def okIdxA (P : Program) (op : Op) (ag : Bool) (esz len : Nat) (y i : COpd) : Bool :=
  match op with
  | .index t z j => okOpd z y && okOpd j i && (match P.underlying t with | some (.array n e) => decide (n = len) && decide (sizeT P e = some esz) && decide (aggT P e = some ag) | _ => false)
  | _ => false
theorem idxA_sound (hT : TRel S T a.tmps ss) {ag : Bool} {esz len : Nat} {y i : COpd} (ho : okIdxA P o.op ag esz len y i = true) (hs : ∀ t ∈ y.slots ++ i.slots, t ∈ ss) {cs : List AV} {iv : AV} {n : Nat} (h5 : evOpd T y = some (.agg cs)) (h6 : evOpd T i = some iv) (h7 : asNat iv = some n) (h8 : n < len)
    (hx : (if ag = true then (if n * esz + esz ≤ cs.length then some (.agg ((cs.drop (n * esz)).take esz)) else none) else cs[n * esz]?) = some x) : Gives P S w a o x := by
  unfold okIdxA at ho
  split at ho
  · rename_i t z j e
    simp only [Bool.and_eq_true] at ho
    obtain ⟨⟨h2, h3⟩, h4⟩ := ho
    split at h4
    · rename_i n' el hu
      simp only [Bool.and_eq_true, decide_eq_true_eq] at h4
      obtain ⟨⟨rfl, h4⟩, h9⟩ := h4
      obtain ⟨k, m, rfl, h0, rfl⟩ := asNat_spec h7
      have hi := rep_int (opd_rep hT h3 (fun t ht => hs t (by simp [ht])) h6)
      obtain ⟨vs, hz, hr⟩ := rep_agg (opd_rep hT h2 (fun t ht => hs t (by simp [ht])) h5)
      obtain ⟨v, h10, h11⟩ := run_part (P := P) (w := w) hr h4 h9 hx
      have : m < (n' : Int) := by omega
      exact ⟨v, by simp [execOp, e, Instr.index, run_underlying hu, hz, hi, asIntOf, h0, this, run_sizeT w h4, h10], h11⟩
    · simp at h4
  · simp at ho

def okExtract (op : Op) (y : COpd) (i : Nat) : Bool :=
  match op with
  | .extract z j => okOpd z y && decide (j = i)
  | _ => false
theorem extract_sound (hT : TRel S T a.tmps ss) {y : COpd} {i : Nat} (ho : okExtract o.op y i = true) (hs : ∀ t ∈ y.slots, t ∈ ss) {vs : List AV} (h1 : evOpd T y = some (.tup vs)) (hx : vs[i]? = some x) : Gives P S w a o x := by
  unfold okExtract at ho
  split at ho
  · rename_i z j e
    simp only [Bool.and_eq_true, decide_eq_true_eq] at ho
    obtain ⟨h2, rfl⟩ := ho
    obtain ⟨us, hu, hl, hr⟩ := rep_tup (opd_rep hT h2 hs h1)
    have hi := (List.getElem?_eq_some_iff.1 hx).1
    have hi' : j < us.length := by rw [← hl]; exact hi
    exact ⟨us[j], by simp [execOp, e, Instr.extract, hu, hi'], .one (hr j x _ hx (List.getElem?_eq_getElem hi'))⟩
  · simp at ho

def okLen (P : Program) (op : Op) (isStr : Bool) (y : COpd) : Bool :=
  match op with
  | .call c => match c.callee with
    | .builtin .len => match c.argTypes.toList, c.args.toList with
      | [t], [z] => okOpd z y && (match P.underlying t with
        | some .string => isStr
        | some (.slice _) => !isStr
        | _ => false)
      | _, _ => false
    | _ => false
  | _ => false
theorem evLen_slice {p : AV} {u : Value} (hr : RepV S p u) {n : Nat} (h : evLen p = some n) : ∃ ad cap, u = .slice ad n cap ∧ n ≤ cap := by
  unfold evLen at h
  split at h
  · cases h
    obtain ⟨ad, cap, e, hle, _, _⟩ := rep_lst hr
    exact ⟨ad, cap, e, hle⟩
  · cases h
    exact ⟨_, _, rep_nils hr, Nat.le_refl _⟩
  · cases h
    obtain ⟨ad, cap, e⟩ := rep_emp hr
    exact ⟨_, _, e, Nat.zero_le _⟩
  · cases h
    obtain ⟨ad, e⟩ := rep_nil0 hr
    exact ⟨_, _, e, Nat.zero_le _⟩
  · cases h
    obtain ⟨ad, cap, k, e, _, _, hle, _⟩ := rep_ref hr
    exact ⟨_, _, e, hle⟩
  · cases h
    obtain ⟨ad, k, e, _⟩ := rep_cref hr
    exact ⟨_, _, e, Nat.le_refl _⟩
  · cases h
theorem len_sound (hT : TRel S T a.tmps ss) {isStr : Bool} {y : COpd} (ho : okLen P o.op isStr y = true) (hs : ∀ t ∈ y.slots, t ∈ ss) (hx : evPure T S.H (.len isStr y) = some x) : Gives P S w a o x := by
  unfold okLen at ho
  split at ho
  · rename_i c e
    split at ho
    · rename_i hc
      split at ho
      · rename_i t z ht hz
        simp only [Bool.and_eq_true] at ho
        have e1 : c.argTypes = #[t] := by rw [← Array.toArray_toList (xs := c.argTypes), ht]
        have e2 : c.args = #[z] := by rw [← Array.toArray_toList (xs := c.args), hz]
        simp only [evPure] at hx
        split at hx
        · rename_i p h1
          have hr := opd_rep hT ho.1 hs h1
          split at hx
          · rename_i his
            rw [his] at ho
            split at hx
            · cases hx
              have hu := rep_str hr
              have ho2 := ho.2
              split at ho2
              · rename_i hut
                exact ⟨_, by simp [execOp, e, resolve, hc, invoke, builtin, Builtin.len_, e1, e2, hu, run_underlying hut, goInt], .one (.s (.frz (.int _ _)))⟩
              · simp at ho2
              · simp at ho2
            · cases hx
          · rename_i his
            have his : isStr = false := by simpa using his
            rw [his] at ho
            cases hl : evLen p with
            | none => simp [hl] at hx
            | some n =>
              simp only [hl, Option.some.injEq] at hx
              subst hx
              obtain ⟨ad, cap, hu, _⟩ := evLen_slice hr hl
              have ho2 := ho.2
              split at ho2
              · simp at ho2
              · rename_i el hut
                exact ⟨_, by simp [execOp, e, resolve, hc, invoke, builtin, Builtin.len_, e1, e2, hu, run_underlying hut, goInt], .one (.s (.frz (.int _ _)))⟩
              · simp at ho2
        · cases hx
      · simp at ho
    · simp at ho
  · simp at ho

def okMM (op : Op) (isMax : Bool) (y : COpd) (ys : List COpd) : Bool :=
  match op with
  | .call c => match c.callee with
    | .builtin b => decide (b = if isMax = true then .max else .min) && okOpds c.args.toList (y :: ys)
    | _ => false
  | _ => false
theorem run_mm (isMax : Bool) : ∀ (l : List AV) (us : List Value) (p : AV) (u : Value) (x : AV), RepV S p u → l.length = us.length → (∀ (i : Nat) (x : AV) (v : Value), l[i]? = some x → us[i]? = some v → RepV S x v) → evMM isMax p l = some x →
    ∃ v, (us.foldlM (if isMax = true then Builtin.max2 else Builtin.min2) u).run P w = .ok v w ∧ RepV S x v
  | [], [], p, u, x, hp, _, _, h => by
    simp [evMM] at h
    subst h
    exact ⟨u, by simp, hp⟩
  | [], _ :: _, _, _, _, _, h, _, _ => by simp at h
  | _ :: _, [], _, _, _, _, h, _, _ => by simp at h
  | q :: l, v :: us, p, u, x, hp, hl, hr, h => by
    unfold evMM at h
    split at h
    · simp_all
    · rename_i k m k' n l' e
      simp only [List.cons.injEq] at e
      obtain ⟨rfl, rfl⟩ := e
      split at h
      · rename_i hk
        subst hk
        have hq := rep_int (hr 0 _ v rfl rfl)
        have hpu := rep_int hp
        have mk : ∀ (k : IntKind) (n : Int), RepV S (.int k n) (.int k n) := fun k n => .one (.s (.frz (.int k n)))
        have ih := run_mm isMax l us _ _ x (mk k (if isMax = true then (if n > m then n else m) else (if n < m then n else m))) (by simpa using hl) (fun i x v hx hv => hr (i + 1) x v (by simpa using hx) (by simpa using hv)) h
        obtain ⟨v', h1, h2⟩ := ih
        refine ⟨v', ?_, h2⟩
        rw [hpu, hq]
        cases isMax
        · simp only [Bool.false_eq_true, if_false] at h1 ⊢
          simp only [List.foldlM_cons, Builtin.min2, Sem.run_bind, Sem.run_pure, Result.andThen_ok]
          exact h1
        · simp only [if_true] at h1 ⊢
          simp only [List.foldlM_cons, Builtin.max2, Sem.run_bind, Sem.run_pure, Result.andThen_ok]
          exact h1
      · cases h
    · cases h
theorem mm_sound (hT : TRel S T a.tmps ss) {isMax : Bool} {y : COpd} {ys : List COpd} (ho : okMM o.op isMax y ys = true) (hs : ∀ t ∈ y.slots ++ ys.flatMap COpd.slots, t ∈ ss) {p : AV} {l : List AV} (h1 : evOpd T y = some p) (h2 : evOpds T ys = some l) (hx : evMM isMax p l = some x) : Gives P S w a o x := by
  unfold okMM at ho
  split at ho
  · rename_i c e
    split at ho
    · rename_i b hc
      simp only [Bool.and_eq_true, decide_eq_true_eq] at ho
      obtain ⟨hb, h3⟩ := ho
      obtain ⟨h4, h5⟩ := opds_rep hT h3 (fun t ht => hs t (by simpa using ht)) (vs := p :: l) (by simp [evOpds, h1, h2])
      cases hl : c.args.toList with
      | nil => simp [hl, okOpds] at h3
      | cons z zs =>
        rw [hl] at h4 h5
        have hp := h5 0 p (a.eval z) rfl rfl
        obtain ⟨v, h6, h7⟩ := run_mm (P := P) (w := w) isMax l (zs.map a.eval) p (a.eval z) x hp (by simpa using h4) (fun i x v hx hv => h5 (i + 1) x v (by simpa using hx) (by simpa using hv)) hx
        refine ⟨v, ?_, h7⟩
        have he : (c.args.map a.eval).toList = a.eval z :: zs.map a.eval := by simp [hl]
        cases isMax
        · simp only [Bool.false_eq_true, if_false] at hb h6
          subst hb
          simp only [execOp, e, resolve, hc, invoke, builtin, Builtin.min_, he, Sem.run_bind, Sem.run_pure, Result.andThen_ok, h6]
        · simp only [if_true] at hb h6
          subst hb
          simp only [execOp, e, resolve, hc, invoke, builtin, Builtin.max_, he, Sem.run_bind, Sem.run_pure, Result.andThen_ok, h6]
    · simp at ho
  · simp at ho
end ops
end Go.Proofs.YtbdpceigmnpoaaaGreatDoor.Ev
