/- Areas: where they lie, and what is read of them. -/
import Derived.Test.YtehcdcnghcbimaaGm
import Derived.Test.YtehcdcnghcbimaaFe
set_option linter.unusedSimpArgs false
set_option linter.unusedVariables false
namespace Go.Proofs.Ytehcdcnghcbimaa.Code
open Go.Proofs.Ytehcdcnghcbimaa.Ev

abbrev Bk := ByteArray × Bool
abbrev Ws := List (Nat × Nat)
def rBk (x : Bk) : List AV := [.str x.1, .bool x.2]
def rW (nb : Nat) (w : Nat × Nat) : List AV := [.ref w.1 w.2 2 0 nb]
def foot (ba bc : Nat) (ws : Ws) : List Nat := ba :: bc :: ws.map (·.1)
/-- an area that lies in a heap -/
structure Ar (tA tC tB : Nat) (H : Heap) (ba bc vc : Nat) (ws : Ws) (nb : Nat) (cs : List (List Bk)) : Prop where
  box : H[ba]? = some ⟨0, true, tA, 1, [[.ref bc vc 1 0 cs.length]]⟩
  rows : H[bc]? = some ⟨vc, true, tC, 1, ws.map (rW nb)⟩
  len : ws.length = cs.length
  blk : ∀ (i : Nat) (w : Nat × Nat) (c : List Bk), ws[i]? = some w → cs[i]? = some c → H[w.1]? = some ⟨w.2, true, tB, 2, c.map rBk⟩ ∧ c.length = nb
  nod : (foot ba bc ws).Nodup
  some' : 0 < cs.length ∧ cs.length ≤ 3 ∧ 0 < nb ∧ nb ≤ 8
section
variable {tA tC tB : Nat} {H : Heap} {ba bc vc : Nat} {ws : Ws} {nb : Nat} {cs : List (List Bk)}
theorem Ar.same (h : Ar tA tC tB H ba bc vc ws nb cs) {H' : Heap} (he : ∀ g ∈ foot ba bc ws, H'[g]? = H[g]?) : Ar tA tC tB H' ba bc vc ws nb cs := by
  refine ⟨by rw [he ba (by simp [foot])]; exact h.box, by rw [he bc (by simp [foot])]; exact h.rows, h.len, fun i w c hw hc => ?_, h.nod, h.some'⟩
  rw [he w.1 (by simp only [foot, List.mem_cons, List.mem_map]; exact .inr (.inr ⟨w, List.mem_of_getElem? hw, rfl⟩))]
  exact h.blk i w c hw hc
theorem Ar.lt (h : Ar tA tC tB H ba bc vc ws nb cs) : ∀ g ∈ foot ba bc ws, g < H.length := by
  intro g hg
  simp only [foot, List.mem_cons, List.mem_map] at hg
  rcases hg with rfl | rfl | ⟨w, hw, rfl⟩
  · exact (List.getElem?_eq_some_iff.1 h.box).1
  · exact (List.getElem?_eq_some_iff.1 h.rows).1
  · obtain ⟨i, hi⟩ := List.getElem?_of_mem hw
    have hl := (List.getElem?_eq_some_iff.1 hi).1
    obtain ⟨c, hc⟩ : ∃ c, cs[i]? = some c := ⟨_, List.getElem?_eq_getElem (by have := h.len; omega)⟩
    exact (List.getElem?_eq_some_iff.1 (h.blk i w c hi hc).1).1
theorem Ar.app (h : Ar tA tC tB H ba bc vc ws nb cs) (X : Heap) : Ar tA tC tB (H ++ X) ba bc vc ws nb cs :=
  h.same fun g hg => List.getElem?_append_left (h.lt g hg)
theorem Ar.boxx (h : Ar tA tC tB H ba bc vc ws nb cs) (X : Heap) : (H ++ X)[ba]? = some ⟨0, true, tA, 1, [[.ref bc vc 1 0 cs.length]]⟩ := (h.app X).box
theorem Ar.slRows (h : Ar tA tC tB H ba bc vc ws nb cs) : SlAt H 1 (.ref bc vc 1 0 cs.length) (ws.map (rW nb)) := by
  have := SlAt.ref (H := H) (sz := 1) (b := bc) (v := vc) (off := 0) (rows := ws.map (rW nb)) (k := ⟨vc, true, tC, 1, ws.map (rW nb)⟩) (by simp [curBlk, h.rows]) fun i row hi => by
    rw [Nat.zero_add]
    refine ⟨?_, hi⟩
    obtain ⟨w, _, rfl⟩ := List.mem_map.1 (List.mem_of_getElem? hi)
    rfl
  rwa [List.length_map, h.len] at this
theorem Ar.slBlk (h : Ar tA tC tB H ba bc vc ws nb cs) {i : Nat} {w : Nat × Nat} {c : List Bk} (hw : ws[i]? = some w) (hc : cs[i]? = some c) : SlAt H 2 (.ref w.1 w.2 2 0 nb) (c.map rBk) := by
  obtain ⟨h1, h2⟩ := h.blk i w c hw hc
  have := SlAt.ref (H := H) (sz := 2) (b := w.1) (v := w.2) (off := 0) (rows := c.map rBk) (k := ⟨w.2, true, tB, 2, c.map rBk⟩) (by simp [curBlk, h1]) fun i row hi => by
    rw [Nat.zero_add]
    refine ⟨?_, hi⟩
    obtain ⟨x, _, rfl⟩ := List.mem_map.1 (List.mem_of_getElem? hi)
    rfl
  rwa [List.length_map, h2] at this
/-- a copy, as it is reached -/
theorem Ar.row (h : Ar tA tC tB H ba bc vc ws nb cs) {i : Nat} {c : List Bk} (hc : cs[i]? = some c) : ∃ w p, ws[i]? = some w ∧ iaddrK 1 (some (.ref bc vc 1 0 cs.length)) (some (.int .i64 (i : Int))) = some p ∧ PtrAt H p [.ref w.1 w.2 2 0 nb] ∧ SlAt H 2 (.ref w.1 w.2 2 0 nb) (c.map rBk) ∧ c.length = nb := by
  obtain ⟨w, hw⟩ : ∃ w, ws[i]? = some w := ⟨_, List.getElem?_eq_getElem (by have := h.len; have := (List.getElem?_eq_some_iff.1 hc).1; omega)⟩
  obtain ⟨_, p, h1, h2⟩ := h.slRows.get i (rW nb w) (by rw [List.getElem?_map, hw]; rfl)
  exact ⟨w, p, hw, h1, h2, h.slBlk hw hc, (h.blk i w c hw hc).2⟩
end
/-- of a block of a copy -/
def bkAt (c : List Bk) (n : Nat) : Bk := (c[n]?).getD (⟨#[]⟩, true)
theorem bk_get {c : List Bk} {n : Nat} (h : n < c.length) : c[n]? = some (bkAt c n) := by
  unfold bkAt; rw [List.getElem?_eq_getElem h]; rfl
def well' (n : Nat) (c : List Bk) : Bool := !(bkAt c n).2
def okBlk (nb : Nat) (n : Int) : Prop := 0 ≤ n ∧ n < (nb : Int)
instance (nb : Nat) (n : Int) : Decidable (okBlk nb n) := by unfold okBlk; infer_instance
theorem len_refI (b v s o n : Nat) : lenK false (some (.ref b v s o n)) = some (.int .i64 (n : Int)) := rfl
section
variable {tA tC tB : Nat} {H : Heap} {ba bc vc : Nat} {ws : Ws} {nb : Nat} {cs : List (List Bk)}
theorem f60 (h : Ar tA tC tB H ba bc vc ws nb cs) (n : Int) : cal (evC cprog) false 60 [.ptr ba 0 1 0 0, .int .i64 n] H = some (.int .i64 (if okBlk nb n then 0 else 2), H) := by
  have hs := h.some'
  have h63 := f63S H ba bc vc cs.length (by omega) h.box
  obtain ⟨c, hc⟩ : ∃ c, cs[0]? = some c := ⟨_, List.getElem?_eq_getElem hs.1⟩
  obtain ⟨w, p, _, hp, hat, _, _⟩ := h.row hc
  have hp : iaddrK 1 (some (.ref bc vc 1 0 cs.length)) (some (.int .i64 0)) = some p := hp
  have hbox := h.box
  rw [cal_of at60]
  by_cases h0 : n < 0
  · rw [if_neg (fun hk => by have := hk.1; omega)]
    simp only [c60, h63, h0, evX, Int.reduceEq, Int.reduceLT, Int.reduceLE, Nat.reduceMul, Nat.reduceMod, evW, fn_eq, evR, Nat.reduceAdd, Nat.reduceLT, Nat.reduceLeDiff, reduceIte, Nat.reduceEqDiff, reduceCtorEq, argEnv, eq_self, if_true, if_false]
    repeat' (first | (rw [guardK_cases]; split <;> simp only [c60, h63, h0, evX, Int.reduceEq, Int.reduceLT, Int.reduceLE, Nat.reduceMul, Nat.reduceMod, evW, evR, Nat.reduceAdd, Nat.reduceLT, Nat.reduceLeDiff, reduceIte, Nat.reduceEqDiff, reduceCtorEq, argEnv, eq_self, if_true, if_false, *]) | (rw [condK_bool]; split <;> simp only [c60, h63, h0, evX, Int.reduceEq, Int.reduceLT, Int.reduceLE, Nat.reduceMul, Nat.reduceMod, evW, evR, Nat.reduceAdd, Nat.reduceLT, Nat.reduceLeDiff, reduceIte, Nat.reduceEqDiff, reduceCtorEq, argEnv, eq_self, if_true, if_false, *]) | (rw [guardD_cases]; split <;> simp only [c60, h63, h0, evX, Int.reduceEq, Int.reduceLT, Int.reduceLE, Nat.reduceMul, Nat.reduceMod, evW, evR, Nat.reduceAdd, Nat.reduceLT, Nat.reduceLeDiff, reduceIte, Nat.reduceEqDiff, reduceCtorEq, argEnv, eq_self, if_true, if_false, *]))
  by_cases h1 : (nb : Int) ≤ n
  · rw [if_neg (fun hk => by have := hk.2; omega)]
    simp only [c60, h63, h0, h1, nck, hbox, hp, hat.one, evX, Int.reduceEq, Int.reduceLT, Int.reduceLE, Nat.reduceMul, Nat.reduceMod, evW, fn_eq, evR, Nat.reduceAdd, Nat.reduceLT, Nat.reduceLeDiff, reduceIte, Nat.reduceEqDiff, reduceCtorEq, argEnv, eq_self, if_true, if_false]
    repeat' (first | (rw [guardK_cases]; split <;> simp only [c60, h63, h0, h1, nck, hbox, hp, hat.one, evX, Int.reduceEq, Int.reduceLT, Int.reduceLE, Nat.reduceMul, Nat.reduceMod, evW, evR, Nat.reduceAdd, Nat.reduceLT, Nat.reduceLeDiff, reduceIte, Nat.reduceEqDiff, reduceCtorEq, argEnv, eq_self, if_true, if_false, *]) | (rw [condK_bool]; split <;> simp only [c60, h63, h0, h1, nck, hbox, hp, hat.one, evX, Int.reduceEq, Int.reduceLT, Int.reduceLE, Nat.reduceMul, Nat.reduceMod, evW, evR, Nat.reduceAdd, Nat.reduceLT, Nat.reduceLeDiff, reduceIte, Nat.reduceEqDiff, reduceCtorEq, argEnv, eq_self, if_true, if_false, *]) | (rw [guardD_cases]; split <;> simp only [c60, h63, h0, h1, nck, hbox, hp, hat.one, evX, Int.reduceEq, Int.reduceLT, Int.reduceLE, Nat.reduceMul, Nat.reduceMod, evW, evR, Nat.reduceAdd, Nat.reduceLT, Nat.reduceLeDiff, reduceIte, Nat.reduceEqDiff, reduceCtorEq, argEnv, eq_self, if_true, if_false, *]))
  · rw [if_pos ⟨by omega, by omega⟩]
    simp only [c60, h63, h0, h1, nck, hbox, hp, hat.one, evX, Int.reduceEq, Int.reduceLT, Int.reduceLE, Nat.reduceMul, Nat.reduceMod, evW, fn_eq, evR, Nat.reduceAdd, Nat.reduceLT, Nat.reduceLeDiff, reduceIte, Nat.reduceEqDiff, reduceCtorEq, argEnv, eq_self, if_true, if_false]
    repeat' (first | (rw [guardK_cases]; split <;> simp only [c60, h63, h0, h1, nck, hbox, hp, hat.one, evX, Int.reduceEq, Int.reduceLT, Int.reduceLE, Nat.reduceMul, Nat.reduceMod, evW, evR, Nat.reduceAdd, Nat.reduceLT, Nat.reduceLeDiff, reduceIte, Nat.reduceEqDiff, reduceCtorEq, argEnv, eq_self, if_true, if_false, *]) | (rw [condK_bool]; split <;> simp only [c60, h63, h0, h1, nck, hbox, hp, hat.one, evX, Int.reduceEq, Int.reduceLT, Int.reduceLE, Nat.reduceMul, Nat.reduceMod, evW, evR, Nat.reduceAdd, Nat.reduceLT, Nat.reduceLeDiff, reduceIte, Nat.reduceEqDiff, reduceCtorEq, argEnv, eq_self, if_true, if_false, *]) | (rw [guardD_cases]; split <;> simp only [c60, h63, h0, h1, nck, hbox, hp, hat.one, evX, Int.reduceEq, Int.reduceLT, Int.reduceLE, Nat.reduceMul, Nat.reduceMod, evW, evR, Nat.reduceAdd, Nat.reduceLT, Nat.reduceLeDiff, reduceIte, Nat.reduceEqDiff, reduceCtorEq, argEnv, eq_self, if_true, if_false, *]))
theorem f62 (h : Ar tA tC tB H ba bc vc ws nb cs) (n : Int) : cal (evC cprog) false 62 [.ptr ba 0 1 0 0, .int .i64 n] H = some (.bool (decide (okBlk nb n)), H) := by
  have hs := h.some'
  obtain ⟨c, hc⟩ : ∃ c, cs[0]? = some c := ⟨_, List.getElem?_eq_getElem hs.1⟩
  obtain ⟨w, p, _, hp, hat, _, _⟩ := h.row hc
  have hp : iaddrK 1 (some (.ref bc vc 1 0 cs.length)) (some (.int .i64 0)) = some p := hp
  have hbox := h.box
  rw [cal_of at62]
  by_cases h0 : 0 ≤ n
  · by_cases h1 : n < (nb : Int)
    · rw [decide_eq_true (show okBlk nb n from ⟨h0, h1⟩)]
      simp only [c62, h0, h1, nck, hbox, hp, hat.one, evX, Int.reduceEq, Int.reduceLT, Int.reduceLE, Nat.reduceMul, Nat.reduceMod, evW, fn_eq, evR, Nat.reduceAdd, Nat.reduceLT, Nat.reduceLeDiff, reduceIte, Nat.reduceEqDiff, reduceCtorEq, argEnv, eq_self, if_true, if_false]
      repeat' (first | (rw [guardK_cases]; split <;> simp only [c62, h0, h1, nck, hbox, hp, hat.one, evX, Int.reduceEq, Int.reduceLT, Int.reduceLE, Nat.reduceMul, Nat.reduceMod, evW, evR, Nat.reduceAdd, Nat.reduceLT, Nat.reduceLeDiff, reduceIte, Nat.reduceEqDiff, reduceCtorEq, argEnv, eq_self, if_true, if_false, *]) | (rw [condK_bool]; split <;> simp only [c62, h0, h1, nck, hbox, hp, hat.one, evX, Int.reduceEq, Int.reduceLT, Int.reduceLE, Nat.reduceMul, Nat.reduceMod, evW, evR, Nat.reduceAdd, Nat.reduceLT, Nat.reduceLeDiff, reduceIte, Nat.reduceEqDiff, reduceCtorEq, argEnv, eq_self, if_true, if_false, *]) | (rw [guardD_cases]; split <;> simp only [c62, h0, h1, nck, hbox, hp, hat.one, evX, Int.reduceEq, Int.reduceLT, Int.reduceLE, Nat.reduceMul, Nat.reduceMod, evW, evR, Nat.reduceAdd, Nat.reduceLT, Nat.reduceLeDiff, reduceIte, Nat.reduceEqDiff, reduceCtorEq, argEnv, eq_self, if_true, if_false, *]))
    · rw [decide_eq_false (show ¬ okBlk nb n from fun hk => h1 hk.2)]
      simp only [c62, h0, h1, nck, hbox, hp, hat.one, evX, Int.reduceEq, Int.reduceLT, Int.reduceLE, Nat.reduceMul, Nat.reduceMod, evW, fn_eq, evR, Nat.reduceAdd, Nat.reduceLT, Nat.reduceLeDiff, reduceIte, Nat.reduceEqDiff, reduceCtorEq, argEnv, eq_self, if_true, if_false]
      repeat' (first | (rw [guardK_cases]; split <;> simp only [c62, h0, h1, nck, hbox, hp, hat.one, evX, Int.reduceEq, Int.reduceLT, Int.reduceLE, Nat.reduceMul, Nat.reduceMod, evW, evR, Nat.reduceAdd, Nat.reduceLT, Nat.reduceLeDiff, reduceIte, Nat.reduceEqDiff, reduceCtorEq, argEnv, eq_self, if_true, if_false, *]) | (rw [condK_bool]; split <;> simp only [c62, h0, h1, nck, hbox, hp, hat.one, evX, Int.reduceEq, Int.reduceLT, Int.reduceLE, Nat.reduceMul, Nat.reduceMod, evW, evR, Nat.reduceAdd, Nat.reduceLT, Nat.reduceLeDiff, reduceIte, Nat.reduceEqDiff, reduceCtorEq, argEnv, eq_self, if_true, if_false, *]) | (rw [guardD_cases]; split <;> simp only [c62, h0, h1, nck, hbox, hp, hat.one, evX, Int.reduceEq, Int.reduceLT, Int.reduceLE, Nat.reduceMul, Nat.reduceMod, evW, evR, Nat.reduceAdd, Nat.reduceLT, Nat.reduceLeDiff, reduceIte, Nat.reduceEqDiff, reduceCtorEq, argEnv, eq_self, if_true, if_false, *]))
  · rw [decide_eq_false (show ¬ okBlk nb n from fun hk => h0 hk.1)]
    simp only [c62, h0, evX, Int.reduceEq, Int.reduceLT, Int.reduceLE, Nat.reduceMul, Nat.reduceMod, evW, fn_eq, evR, Nat.reduceAdd, Nat.reduceLT, Nat.reduceLeDiff, reduceIte, Nat.reduceEqDiff, reduceCtorEq, argEnv, eq_self, if_true, if_false]
    repeat' (first | (rw [guardK_cases]; split <;> simp only [c62, h0, evX, Int.reduceEq, Int.reduceLT, Int.reduceLE, Nat.reduceMul, Nat.reduceMod, evW, evR, Nat.reduceAdd, Nat.reduceLT, Nat.reduceLeDiff, reduceIte, Nat.reduceEqDiff, reduceCtorEq, argEnv, eq_self, if_true, if_false, *]) | (rw [condK_bool]; split <;> simp only [c62, h0, evX, Int.reduceEq, Int.reduceLT, Int.reduceLE, Nat.reduceMul, Nat.reduceMod, evW, evR, Nat.reduceAdd, Nat.reduceLT, Nat.reduceLeDiff, reduceIte, Nat.reduceEqDiff, reduceCtorEq, argEnv, eq_self, if_true, if_false, *]) | (rw [guardD_cases]; split <;> simp only [c62, h0, evX, Int.reduceEq, Int.reduceLT, Int.reduceLE, Nat.reduceMul, Nat.reduceMod, evW, evR, Nat.reduceAdd, Nat.reduceLT, Nat.reduceLeDiff, reduceIte, Nat.reduceEqDiff, reduceCtorEq, argEnv, eq_self, if_true, if_false, *]))
end
theorem f78 (b v nb : Nat) (c : List Bk) (n : Nat) (hn : n < nb) (hcl : c.length = nb) (bn : Nat) (H : Heap) (hs : SlAt H 2 (.ref b v 2 0 nb) (c.map rBk)) (hb : ∀ X, (H ++ X)[bn]? = some ⟨0, true, 3, 1, [[.int .i64 (n : Int)]]⟩) :
    cal (evC cprog) false 78 [.ref b v 2 0 nb, .ptr bn 0 1 0 0] H = some (.bool (well' n c), H) := by
  obtain ⟨_, q, hq, hqt⟩ := hs.get n (rBk (bkAt c n)) (by rw [List.getElem?_map, bk_get (by omega)]; rfl)
  have hb0 := hb []
  rw [List.append_nil] at hb0
  have hf := hqt.fld 1 1
  simp only [rBk, List.getElem?_cons_succ, List.getElem?_cons_zero] at hf
  have hfa := hqt.faddr 1
  rw [cal_of at78]
  simp only [c78, hb0, hq, hfa, hf, well', evX, Int.reduceEq, Int.reduceLT, Int.reduceLE, Nat.reduceMul, Nat.reduceMod, evW, fn_eq, evR, Nat.reduceAdd, Nat.reduceLT, Nat.reduceLeDiff, reduceIte, Nat.reduceEqDiff, reduceCtorEq, argEnv, eq_self, if_true, if_false]
  repeat' (first | (rw [guardK_cases]; split <;> simp only [c78, hb0, hq, hfa, hf, well', evX, Int.reduceEq, Int.reduceLT, Int.reduceLE, Nat.reduceMul, Nat.reduceMod, evW, evR, Nat.reduceAdd, Nat.reduceLT, Nat.reduceLeDiff, reduceIte, Nat.reduceEqDiff, reduceCtorEq, argEnv, eq_self, if_true, if_false, *]) | (rw [condK_bool]; split <;> simp only [c78, hb0, hq, hfa, hf, well', evX, Int.reduceEq, Int.reduceLT, Int.reduceLE, Nat.reduceMul, Nat.reduceMod, evW, evR, Nat.reduceAdd, Nat.reduceLT, Nat.reduceLeDiff, reduceIte, Nat.reduceEqDiff, reduceCtorEq, argEnv, eq_self, if_true, if_false, *]) | (rw [guardD_cases]; split <;> simp only [c78, hb0, hq, hfa, hf, well', evX, Int.reduceEq, Int.reduceLT, Int.reduceLE, Nat.reduceMul, Nat.reduceMod, evW, evR, Nat.reduceAdd, Nat.reduceLT, Nat.reduceLeDiff, reduceIte, Nat.reduceEqDiff, reduceCtorEq, argEnv, eq_self, if_true, if_false, *]))
end Go.Proofs.Ytehcdcnghcbimaa.Code
