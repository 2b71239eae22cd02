/- slices.Insert as a function held by a proof of its own. -/
import Derived.Test.YtcbmakanokmdjaaIa
import Derived.Test.YtcbmakanokmdjaaInsP
set_option linter.unusedSimpArgs false
set_option linter.unusedVariables false
namespace Go.Proofs.Ytcbmakanokmdjaa.Code
open Go Go.Proofs Go.RowKit Go.Proofs.Ytcbmakanokmdjaa.Ev

theorem seg_two (l : List Value) (a n : Nat) (h : a ≤ n) : (l.drop a).take (n - a) = (l.take n).drop a := by rw [List.drop_take]
theorem over_list (A : Array Value) (o : Nat) (news : List Value) : (over A o news).toList = A.toList.take o ++ news ++ A.toList.drop (o + news.length) := by simp [over]
/-- what stands in a row's block first -/
theorem one_row {S : Sta} {w : World} {B b : Nat} {k : Blk} {g rc : Nat} {cur : Array Value} (hB : BlkAt S w B b k g rc cur) {row : List AV} (h : k.els[0]? = some row) : RowVals S [row] k.sz (part cur 0 k.sz) ∧ k.sz ≤ cur.size := by
  have hl := (List.getElem?_eq_some_iff.1 h).1
  have hv := hB.vals.take (n := 1) (by omega)
  have ht : k.els.take 1 = [row] := by
    cases he : k.els with
    | nil => rw [he] at h; simp at h
    | cons x xs => rw [he] at h; simp at h; subst h; rfl
  have hm := Nat.mul_le_mul_right k.sz (show 1 ≤ rc by have := hB.le; omega)
  rw [Nat.one_mul] at hm
  have hm2 := Nat.mul_le_mul_right k.sz (show 1 ≤ k.els.length by omega)
  rw [Nat.one_mul] at hm2
  rw [ht, Nat.one_mul, List.take_take, Nat.min_eq_left hm2] at hv
  exact ⟨by simpa [part] using hv, by rw [hB.size]; exact hm⟩
set_option maxRecDepth 100000 in
theorem ins_ok {args : List AV} {H : Heap} {vs' : List AV} {H' : Heap} (h : pIns 2 50 24 args H = some (vs', H')) {S : Sta} {w : World} {B : Nat} {vs : List Value} (hS : S.H = H) (hW : WRel S w B) (hl : args.length = vs.length)
    (hr : ∀ (i : Nat) (x : AV) (v : Value), args[i]? = some x → vs[i]? = some v → RepV S x v) :
    Calls Try.prog 52 vs.toArray w fun e w' => ∃ v S', e = .returned v ∧ S'.H = H' ∧ RepV S' (packRes vs') v ∧ WRel S' w' B ∧ Ext S S' ∧ Below B w w' := by
  subst hS
  rcases pIns_some h with ⟨b, v, n, i, bv, vv, k, kv, row, rfl, hk, hkv, hrow, hty, htv, hne, hn, hi0, hin, hb1, hb2, rfl, rfl⟩ | ⟨a, bv, vv, kv, row, rfl, ha, hkv, hrow, htv, rfl, rfl⟩
  · match vs, hl with
    | [v0, v1, v2], _ =>
      obtain ⟨d1, d2, d3, d4⟩ := curBlk_spec hk
      obtain ⟨c1, c2, c3, c4⟩ := curBlk_spec hkv
      obtain ⟨g, rc, cur, hB⟩ := hW.blk b k d1 d2
      obtain ⟨gv, rcv, curv, hBv⟩ := hW.blk bv kv c1 c2
      obtain ⟨ad, cap, k', rfl, hk', _, hcap, _, hat⟩ := rep_ref (hr 0 _ _ rfl rfl)
      rw [d1] at hk'; cases hk'
      obtain ⟨_, hat⟩ := hat d2 d3 d4
      obtain ⟨g', rc', hm, rfl, hrc⟩ := hat (.inr rfl)
      rw [hB.mu] at hm; cases hm
      rw [Nat.zero_add] at hrc; subst hrc
      have hv1 := rep_int (hr 1 _ _ rfl rfl)
      subst hv1
      obtain ⟨adv, capv, kv', rfl, hkv', _, hcapv, _, hatv⟩ := rep_ref (hr 2 _ _ rfl rfl)
      rw [c1] at hkv'; cases hkv'
      obtain ⟨_, hatv⟩ := hatv c2 c3 c4
      obtain ⟨gv', rcv', hmv, rfl, hrcv⟩ := hatv (.inr rfl)
      rw [hBv.mu] at hmv; cases hmv
      have hng : gv ≠ g := fun e => hne (hW.inj b bv k kv g cap _ d1 d2 c1 c2 hB.mu (by rw [hBv.mu, e]))
      have hh := hB.heap
      have hhv := hBv.heap
      have hsz := hB.size
      have hmax := hB.max
      have hbase := hB.base
      have hle := hB.le
      obtain ⟨hrow1, hszv⟩ := one_row hBv hrow
      have hKv := hB.vals.take hn
      rw [List.take_take, Nat.min_eq_left (Nat.mul_le_mul_right _ hn)] at hKv
      rw [c4] at hrow1 hszv
      rw [d4] at hsz hKv
      rw [hty] at hh
      rw [htv] at hhv
      simp only [Nat.zero_mul] at hh hhv ⊢
      obtain ⟨i, rfl⟩ : ∃ j : Nat, i = (j : Int) := ⟨i.toNat, by omega⟩
      have hil : i ≤ n := by omega
      rw [Int.toNat_natCast]
      have hKlen : (k.els.take n).length = n := by rw [List.length_take]; omega
      have hels : RowVals S ((k.els.take n).take i ++ row :: (k.els.take n).drop i) 2 ((cur.toList.take (n * 2)).take (i * 2) ++ (part curv 0 2 ++ (cur.toList.take (n * 2)).drop (i * 2))) :=
        (hKv.take (by rw [hKlen]; exact hil)).append (hrow1.append (hKv.drop i))
      have hlen : ((k.els.take n).take i ++ row :: (k.els.take n).drop i).length = n + 1 := by
        simp only [List.length_append, List.length_take, List.length_cons, List.length_drop]; omega
      have hone1 : ∀ v ∈ part cur (i * 2) ((n - i) * 2), v.oneCell' = true := by
        have := (hKv.drop i).one
        unfold part
        rw [show (n - i) * 2 = n * 2 - i * 2 by omega, seg_two _ _ _ (by omega)]
        exact this
      have hone2 := hrow1.one
      have hp1 : part cur (i * 2) ((n - i) * 2) = (cur.toList.take (n * 2)).drop (i * 2) := by
        unfold part
        rw [show (n - i) * 2 = n * 2 - i * 2 by omega, seg_two _ _ _ (by omega)]
      have hcl : cur.toList.length = cur.size := Array.length_toList
      have hl2 : (part curv 0 2).length = 2 := part_len (by omega)
      have hl1 : (part cur (i * 2) ((n - i) * 2)).length = (n - i) * 2 := part_len (by omega)
      have htt : (cur.toList.take (n * 2)).take (i * 2) = cur.toList.take (i * 2) := by rw [List.take_take, Nat.min_eq_left (by omega)]
      have hgw : g < w.heap.size := (Array.getElem?_eq_some_iff.1 hh).1
      have hws := hW.base
      have fin : ∀ (w' : World) (g' rc' : Nat) (cur' : Array Value) (rest : List Value), cur'.toList = ((cur.toList.take (n * 2)).take (i * 2) ++ (part curv 0 2 ++ (cur.toList.take (n * 2)).drop (i * 2))) ++ rest → cur'.size = rc' * 2 → n + 1 ≤ rc' → rc' ≤ maxLen → (g' = g ∨ w.heap.size ≤ g') →
          w'.heap[g']? = some (.cells cur' 50 (0, 0)) → (∀ x, x < w.heap.size → x ≠ g → w'.heap[x]? = w.heap[x]?) → Below B w w' →
          ∃ v' S', Ending.returned (.slice (some ⟨g', 0, none⟩) (n + 1) rc') = .returned v' ∧ S'.H = S.H.set b { k with ver := v + 1, els := (k.els.take n).take i ++ row :: (k.els.take n).drop i } ∧ RepV S' (packRes [.ref b (v + 1) 2 0 (n + 1)]) v' ∧ WRel S' w' B ∧ Ext S S' ∧ Below B w w' := by
        intro w' g' rc' cur' rest q1 q2 q3 q4 q5 q6 q7 q8
        obtain ⟨S', s1, s2, s3, s4, s5⟩ := ins_post (w' := w') hW d1 d2 hB _ _ (by rw [d4]; exact hels) g' rc' cur' rest q1 (by rw [d4]; exact q2) (by rw [hlen]; exact q3) q4 q5 (by rcases q5 with e | e <;> omega) (by rw [hty]; exact q6) q7 q8
        rw [d4, hlen, d3] at s2
        rw [d3] at s1
        exact ⟨_, S', rfl, s1, s2, s3, s4, s5⟩
      by_cases hroom : n + 1 ≤ cap
      · by_cases hie : i < n
        · have hC := ins_shift w g gv n cap i capv cur curv hie hroom (by unfold maxLen at hmax; omega) hng hh hhv hsz hszv hone1 hone2
          refine hC.mono ?_
          rintro e w' ⟨rfl, rfl⟩
          have hh1 : (w.drew.setRow g (over cur ((i + 1) * 2) (part cur (i * 2) ((n - i) * 2)))).heap[g]? = some (.cells (over cur ((i + 1) * 2) (part cur (i * 2) ((n - i) * 2))) 50 (0, 0)) := setRow_heap w.drew g cur _ 50 (0, 0) hh
          have ho1 : (over cur ((i + 1) * 2) (part cur (i * 2) ((n - i) * 2))).size = cur.size := over_size (by rw [hl1]; omega)
          refine fin _ g cap _ (cur.toList.drop ((n + 1) * 2)) ?_ (by rw [over_size (by rw [hl2, ho1]; omega), ho1, hsz]) hroom hmax (.inl rfl) (setRow_heap _ g _ _ 50 (0, 0) hh1) (fun x _ hx => ?_) ?_
          · rw [over_list, over_list, hl1, hl2, List.append_assoc, List.append_assoc, htt, ← hp1, List.take_append_of_le_length (by rw [List.length_take, hcl]; omega), List.take_take, Nat.min_eq_left (by omega),
              List.drop_append_of_le_length (by rw [List.length_take, hcl]; omega), List.drop_eq_nil_of_le (by rw [List.length_take, hcl]; omega), List.nil_append, show (i + 1) * 2 + (n - i) * 2 = (n + 1) * 2 by omega]
            simp only [List.append_assoc]
          · rw [setRow_other _ _ _ _ hx, setRow_other _ _ _ _ hx]; rfl
          · exact ((Below.refl B w).drew.trans (below_setRow' hbase _)).trans (below_setRow' hbase _)
        · have hie : i = n := by omega
          subst hie
          have hC := ins_room w g gv i cap capv cur curv hroom (by unfold maxLen at hmax; omega) hh hhv hsz hszv hone2
          refine hC.mono ?_
          rintro e w' ⟨rfl, rfl⟩
          refine fin _ g cap _ (cur.toList.drop ((i + 1) * 2)) ?_ (by rw [over_size (by rw [hl2]; omega), hsz]) hroom hmax (.inl rfl) (setRow_heap w g cur _ 50 (0, 0) hh) (fun x _ hx => setRow_other _ _ _ _ hx) (below_setRow' hbase _)
          have hd : (cur.toList.take (i * 2)).drop (i * 2) = [] := List.drop_eq_nil_of_le (by rw [List.length_take]; omega)
          rw [over_list, hl2, htt, hd, List.append_nil, show i * 2 + 2 = (i + 1) * 2 by omega]
      · obtain ⟨i0, z, hi0, hi1, hi2, hz, hzc⟩ := ins_inf
        have hG := grownCap_ge w (n + 1) cap 50
        have hGm : grownCap w (n + 1) cap 50 ≤ maxLen := grownCap_le_maxLen w (n + 1) cap 50 (by unfold reach at hb2; simp only [maxLen]; omega)
        by_cases hie : i < n
        · obtain ⟨R, hRs, hRt, hC⟩ := ins_grow w g gv n cap i capv cur curv hie (by omega) (by omega) hb1 hb2 hh hhv hsz hszv hone1 hone2
          refine hC.mono ?_
          rintro e w' ⟨rfl, rfl⟩
          have hN : (w.alloc (.cells R 50)).drew.heap[w.heap.size]? = some (.cells R 50 (0, 0)) := heap_alloc_new w _
          have hN2 : ((w.alloc (.cells R 50)).drew.setRow w.heap.size (over R (i * 2) (part curv 0 2))).drew.heap[w.heap.size]? = some (.cells (over R (i * 2) (part curv 0 2)) 50 (0, 0)) := setRow_heap _ _ R _ 50 (0, 0) hN
          have hos : (over R (i * 2) (part curv 0 2)).size = R.size := over_size (by rw [hl2, hRs]; omega)
          have hRl : R.toList.length = R.size := Array.length_toList
          refine fin _ w.heap.size (grownCap w (n + 1) cap 50) _ ((over R (i * 2) (part curv 0 2)).toList.drop ((n + 1) * 2)) ?_ (by rw [over_size (by rw [hl1, hos, hRs]; omega), hos, hRs]) hG hGm (.inr (Nat.le_refl _)) (setRow_heap _ _ _ _ 50 (0, 0) hN2) (fun x hx _ => ?_) ?_
          · rw [over_list, hl1, show (i + 1) * 2 + (n - i) * 2 = (n + 1) * 2 by omega, htt, ← hp1]
            congr 1
            rw [over_list, hRt, hl2, List.take_append_of_le_length (by rw [List.length_append, hl2, part_len (by omega)]; omega), List.take_of_length_le (by rw [List.length_append, hl2, part_len (by omega)]; omega)]
            simp only [List.append_assoc]
            rfl
          · rw [setRow_other _ _ _ _ (by omega)]
            have h3 : ((w.alloc (.cells R 50)).drew.setRow w.heap.size (over R (i * 2) (part curv 0 2))).heap[x]? = (w.alloc (.cells R 50)).heap[x]? := setRow_other _ _ _ _ (by omega)
            have h4 : (w.alloc (.cells R 50)).heap[x]? = w.heap[x]? := by apply heap_alloc_old; exact hx
            exact h3.trans h4
          · have b1 : Below B w (w.alloc (.cells R 50)).drew := ((Below.refl B w).alloc hws _).drew
            exact ((b1.trans (below_setRow' hws _)).drew).trans (below_setRow' hws _)
        · have hie : i = n := by omega
          subst hie
          have hC := ins_tail w g gv i cap capv cur curv z (by rw [hi0]; exact hz) (by omega) (by omega) hb1 hb2 hh hhv hsz hszv
          refine hC.mono ?_
          rintro e w' ⟨rfl, rfl⟩
          have hl0 : (part cur 0 (i * 2)).length = i * 2 := part_len (by omega)
          refine fin _ w.heap.size (grownCap w (i + 1) cap 50) _ (Builtin.zeroCells z.cells (grownCap w (i + 1) cap 50 - (i + 1))).toList ?_ ?_ hG hGm (.inr (Nat.le_refl _)) (heap_alloc_new w.drew _) (fun x hx _ => ?_) ((Below.refl B w).drew.alloc hws _)
          · rw [htt, List.drop_eq_nil_of_le (by rw [List.length_take, hcl]; omega), List.append_nil]
            simp [part]
          · simp only [Array.size_append, List.size_toArray, List.length_append, size_zeroCells, hzc, hl0, hl2]; omega
          · apply heap_alloc_old; exact hx
  · match vs, hl with
    | [v0, v1, v2], _ =>
      obtain ⟨c1, c2, c3, c4⟩ := curBlk_spec hkv
      obtain ⟨gv, rcv, curv, hBv⟩ := hW.blk bv kv c1 c2
      have hv0 : ∃ ad, v0 = .slice ad 0 0 := by
        rcases ha with rfl | rfl
        · exact ⟨none, rep_nils (hr 0 _ _ rfl rfl)⟩
        · exact rep_nil0 (hr 0 _ _ rfl rfl)
      obtain ⟨ad, rfl⟩ := hv0
      have hv1 := rep_int (hr 1 _ _ rfl rfl)
      subst hv1
      obtain ⟨adv, capv, kv', rfl, hkv', _, hcapv, _, hatv⟩ := rep_ref (hr 2 _ _ rfl rfl)
      rw [c1] at hkv'; cases hkv'
      obtain ⟨_, hatv⟩ := hatv c2 c3 c4
      obtain ⟨gv', rcv', hmv, rfl, hrcv⟩ := hatv (.inr rfl)
      rw [hBv.mu] at hmv; cases hmv
      have hhv := hBv.heap
      obtain ⟨hrow1, hszv⟩ := one_row hBv hrow
      rw [c4] at hrow1 hszv
      rw [htv] at hhv
      simp only [Nat.zero_mul] at hhv ⊢
      have hws := hW.base
      have hl2 : (part curv 0 2).length = 2 := part_len (by omega)
      obtain ⟨i0, z, hi0, hi1, hi2, hz, hzc⟩ := ins_inf
      have hG := grownCap_ge w 1 0 50
      have hGm : grownCap w 1 0 50 ≤ maxLen := grownCap_le_maxLen w 1 0 50 (by simp only [maxLen]; omega)
      refine (ins_none w ad gv capv curv z (by rw [hi0]; exact hz) hhv hszv).mono ?_
      rintro e w' ⟨rfl, rfl⟩
      obtain ⟨S', s1, s2, s3, s4, s5⟩ := hW.drew.push 50 2 (grownCap w 1 0 50) [row] ((part curv 0 2).toArray ++ Builtin.zeroCells z.cells (grownCap w 1 0 50 - 1))
        (by simp only [Array.size_append, List.size_toArray, size_zeroCells, hzc, hl2]; omega) (by simpa using hG) hGm hrow1.row
        (fun j c r x hj hc => by
          obtain ⟨u, hu, hru⟩ := hrow1.cell j c r x hj hc
          refine ⟨u, ?_, hru⟩
          rw [← Array.getElem?_toList, Array.toList_append, List.getElem?_append_left (by simpa using (List.getElem?_eq_some_iff.1 hu).1)]
          simpa using hu)
      refine ⟨_, S', rfl, s1, .one (.s (.ref _ _ _ _ _ _ _ ⟨0, true, 50, 2, [row]⟩ ?_ (Nat.le_refl _) hG rfl fun _ _ _ => ⟨by simp, fun _ => ⟨w.heap.size, grownCap w 1 0 50, ?_, by simp, by omega⟩⟩)), s5, s4, (Below.refl B w).drew.alloc hws _⟩
      · rw [s1]; simp
      · rw [s2, ← hW.len]
        simp
theorem userIns {c : CFn} (hb : c.body = .user (pIns 2 50 24)) (hcl : c.closed = false) (hsp : c.split = false) (hres : c.res = [.t 0]) : UserOk Try.prog 52 c where
  fn := ⟨Try.f52, Try.func52, by kernel_rfl, by kernel_rfl⟩
  user := ⟨_, hb⟩
  plain := ⟨hcl, hsp⟩
  res := ⟨1, by rw [hres]; rfl, by
    intro p hp args H q hq
    rw [hb] at hp; cases hp
    rcases pIns_some (by rw [hq]) with ⟨_, _, _, _, _, _, _, _, _, _, _, _, _, _, _, _, _, _, _, _, _, h, _⟩ | ⟨_, _, _, _, _, _, _, _, _, _, h, _⟩ <;> rw [h] <;> rfl⟩
  ok := by
    intro p hp args H vs' H' h S w B vs hS hW hl hr
    rw [hb] at hp; cases hp
    exact ins_ok h hS hW hl hr
end Go.Proofs.Ytcbmakanokmdjaa.Code
