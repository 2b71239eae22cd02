/- Areas: the program's and the document's, side by side. -/
import Derived.Test.YtehcdcnghcbimaaHj
set_option linter.unusedSimpArgs false
set_option linter.unusedVariables false
namespace Go.Proofs.Ytehcdcnghcbimaa.Code
open Go.Proofs.Ytehcdcnghcbimaa.Ev

def Two (H : Heap) (ba bx nb : Nat) (cs : List (List Bk)) : Prop := ∃ bc vc ws dc wc us, Ar 72 88 96 H ba bc vc ws nb cs ∧ Ar 91 92 98 H bx dc wc us nb cs ∧ ∀ g ∈ foot ba bc ws, g ∉ foot bx dc us
section
variable {H : Heap} {ba bx nb : Nat} {cs : List (List Bk)}
theorem Two.app (h : Two H ba bx nb cs) (X : Heap) : Two (H ++ X) ba bx nb cs := by
  obtain ⟨bc, vc, ws, dc, wc, us, h1, h2, h3⟩ := h
  exact ⟨bc, vc, ws, dc, wc, us, h1.app X, h2.app X, h3⟩
theorem Two.sizes (h : Two H ba bx nb cs) : 0 < cs.length ∧ cs.length ≤ 3 ∧ 0 < nb ∧ nb ≤ 8 := by
  obtain ⟨bc, vc, ws, dc, wc, us, h1, _⟩ := h
  exact h1.some'
theorem Two.reads (h : Two H ba bx nb cs) (n : Int) : cal (evC cprog) false 32 [.ptr ba 0 1 0 0, .int .i64 n] H = some (.tup [.str (readA cs nb n).1, .int .i64 (readA cs nb n).2], H) ∧
    cal (evC cprog) false 33 [.ptr bx 0 1 0 0, .int .i64 n] H = some (.tup [.str (readA cs nb n).1, .int .i64 (readA cs nb n).2], H) := by
  obtain ⟨bc, vc, ws, dc, wc, us, h1, h2, _⟩ := h
  exact ⟨f32 h1 n, f33 h2 n⟩
theorem Two.lefts (h : Two H ba bx nb cs) (n : Int) : cal (evC cprog) false 40 [.ptr ba 0 1 0 0, .int .i64 n] H = some (.tup [.int .i64 (leftA cs nb n).1, .int .i64 (leftA cs nb n).2], H) ∧
    cal (evC cprog) false 41 [.ptr bx 0 1 0 0, .int .i64 n] H = some (.tup [.int .i64 (leftA cs nb n).1, .int .i64 (leftA cs nb n).2], H) := by
  obtain ⟨bc, vc, ws, dc, wc, us, h1, h2, _⟩ := h
  exact ⟨f40 h1 n, f41 h2 n⟩
theorem Two.same (h : Two H ba bx nb cs) : cal (evC cprog) false 42 [.ptr ba 0 1 0 0, .ptr ba 0 1 0 0] H = some (.bool true, H) := by
  obtain ⟨bc, vc, ws, dc, wc, us, h1, _, _⟩ := h
  exact f42S h1
theorem Two.writes (h : Two H ba bx nb cs) (B : Blk) (n : Int) (s : ByteArray) : ∃ H1 H2, cal (evC cprog) false 34 [.ptr ba 0 1 0 0, .int .i64 n, .str s] (H ++ [B]) = some (.int .i64 (writeA cs nb n s).1, H1) ∧ H1[H.length]? = some B ∧
    cal (evC cprog) false 35 [.ptr bx 0 1 0 0, .int .i64 n, .str s] H1 = some (.int .i64 (writeA cs nb n s).1, H2) ∧ H2[H.length]? = some B ∧ Two H2 ba bx nb (writeA cs nb n s).2 := by
  obtain ⟨bc, vc, ws, dc, wc, us, h1, h2, h3⟩ := h
  obtain ⟨H1, k1, k2, k3⟩ := f34 (h1.app [B]) n s
  have h2' := (h2.app [B]).keep k3 fun g hg hf => h3 g hf hg
  obtain ⟨H2, m1, m2, m3⟩ := f35 h2' n s
  have hB : (H ++ [B])[H.length]? = some B := by simp
  have n1 : H.length ∉ foot ba bc ws := fun hm => by have := h1.lt _ hm; omega
  have n2 : H.length ∉ foot bx dc us := fun hm => by have := h2.lt _ hm; omega
  have e1 : H1[H.length]? = some B := by rw [k3.keep _ (by simp) n1]; exact hB
  have l1 := (List.getElem?_eq_some_iff.1 e1).1
  exact ⟨H1, H2, k1, e1, m1, by rw [m3.keep _ l1 n2]; exact e1, bc, vc, ws, dc, wc, us, k2.keep m3 h3, m2, h3⟩
theorem Two.bads (h : Two H ba bx nb cs) (B : Blk) (i n : Int) : ∃ H1 H2, cal (evC cprog) false 36 [.ptr ba 0 1 0 0, .int .i64 i, .int .i64 n] (H ++ [B]) = some (.int .i64 (badA cs nb i n).1, H1) ∧ H1[H.length]? = some B ∧
    cal (evC cprog) false 37 [.ptr bx 0 1 0 0, .int .i64 i, .int .i64 n] H1 = some (.int .i64 (badA cs nb i n).1, H2) ∧ H2[H.length]? = some B ∧ Two H2 ba bx nb (badA cs nb i n).2 := by
  obtain ⟨bc, vc, ws, dc, wc, us, h1, h2, h3⟩ := h
  obtain ⟨H1, k1, k2, k3⟩ := f36 (h1.app [B]) i n
  have h2' := (h2.app [B]).keep k3 fun g hg hf => h3 g hf hg
  obtain ⟨H2, m1, m2, m3⟩ := f37 h2' i n
  have hB : (H ++ [B])[H.length]? = some B := by simp
  have n1 : H.length ∉ foot ba bc ws := fun hm => by have := h1.lt _ hm; omega
  have n2 : H.length ∉ foot bx dc us := fun hm => by have := h2.lt _ hm; omega
  have e1 : H1[H.length]? = some B := by rw [k3.keep _ (by simp) n1]; exact hB
  have l1 := (List.getElem?_eq_some_iff.1 e1).1
  exact ⟨H1, H2, k1, e1, m1, by rw [m3.keep _ l1 n2]; exact e1, bc, vc, ws, dc, wc, us, k2.keep m3 h3, m2, h3⟩
theorem Two.repairs (h : Two H ba bx nb cs) (i : Int) : ∃ H1 H2, cal (evC cprog) false 38 [.ptr ba 0 1 0 0, .int .i64 i] H = some (.tup [.int .i64 (repairA cs nb i).1.1, .int .i64 (repairA cs nb i).1.2], H1) ∧
    cal (evC cprog) false 39 [.ptr bx 0 1 0 0, .int .i64 i] H1 = some (.tup [.int .i64 (repairA cs nb i).1.1, .int .i64 (repairA cs nb i).1.2], H2) ∧ Two H2 ba bx nb (repairA cs nb i).2 ∧
      ∀ g, g < H.length → (∀ bc vc ws dc wc us, Ar 72 88 96 H ba bc vc ws nb cs → Ar 91 92 98 H bx dc wc us nb cs → g ∉ foot ba bc ws ∧ g ∉ foot bx dc us) → H1[g]? = H[g]? ∧ H2[g]? = H[g]? := by
  obtain ⟨bc, vc, ws, dc, wc, us, h1, h2, h3⟩ := h
  obtain ⟨H1, ws', k1, k2, k3, k4⟩ := f38 h1 i
  have h2' := h2.keep k3 fun g hg hf => h3 g hf hg
  obtain ⟨H2, m1, m2, m3⟩ := f39 h2' i
  have hd : ∀ g ∈ foot ba bc ws', g ∉ foot bx dc us := fun g hg hf => by
    rcases k4 g hg with hg | hg
    · exact h3 g hg hf
    · have := h2.lt g hf; omega
  refine ⟨H1, H2, k1, m1, ⟨bc, vc, ws', dc, wc, us, k2.keep m3 hd, m2, hd⟩, fun g hg hn => ?_⟩
  obtain ⟨g1, g2⟩ := hn _ _ _ _ _ _ h1 h2
  have e1 := k3.keep g hg g1
  exact ⟨e1, by rw [m3.keep g (by have := k3.len; omega) g2]; exact e1⟩
theorem Two.repairsB (h : Two H ba bx nb cs) (B : Blk) (i : Int) : ∃ H1 H2, cal (evC cprog) false 38 [.ptr ba 0 1 0 0, .int .i64 i] (H ++ [B]) = some (.tup [.int .i64 (repairA cs nb i).1.1, .int .i64 (repairA cs nb i).1.2], H1) ∧ H1[H.length]? = some B ∧
    cal (evC cprog) false 39 [.ptr bx 0 1 0 0, .int .i64 i] H1 = some (.tup [.int .i64 (repairA cs nb i).1.1, .int .i64 (repairA cs nb i).1.2], H2) ∧ H2[H.length]? = some B ∧ Two H2 ba bx nb (repairA cs nb i).2 := by
  obtain ⟨bc, vc, ws, dc, wc, us, h1, h2, h3⟩ := h
  obtain ⟨H1, ws', k1, k2, k3, k4⟩ := f38 (h1.app [B]) i
  have h2' := (h2.app [B]).keep k3 fun g hg hf => h3 g hf hg
  obtain ⟨H2, m1, m2, m3⟩ := f39 h2' i
  have hd : ∀ g ∈ foot ba bc ws', g ∉ foot bx dc us := fun g hg hf => by
    rcases k4 g hg with hg | hg
    · exact h3 g hg hf
    · have := h2.lt g hf; simp at hg; omega
  have hB : (H ++ [B])[H.length]? = some B := by simp
  have n1 : H.length ∉ foot ba bc ws := fun hm => by have := h1.lt _ hm; omega
  have n2 : H.length ∉ foot bx dc us := fun hm => by have := h2.lt _ hm; omega
  have e1 : H1[H.length]? = some B := by rw [k3.keep _ (by simp) n1]; exact hB
  have l1 := (List.getElem?_eq_some_iff.1 e1).1
  exact ⟨H1, H2, k1, e1, m1, by rw [m3.keep _ l1 n2]; exact e1, bc, vc, ws', dc, wc, us, k2.keep m3 hd, m2, hd⟩
theorem l8_1 (h : Two H ba bx nb cs) (P0 : AV) (G : Heap) (st : St) (hE : keepEnv st.1 [0, 1, 7, 9, 26] = [(0, P0), (1, .int .i64 (nb : Int)), (7, .ptr ba 0 1 0 0), (9, .ptr bx 0 1 0 0), (26, .int .i64 0)]) (hH : st.2 = H) (z : Option (CX × St)) (hz : itLim (evCode (evC cprog) itLim c8_l1) st = z) :
    Lv H [] (fun x T => x = .exit 3 ∧ keepEnv T [0, 1, 7, 9] = [(0, P0), (1, .int .i64 (nb : Int)), (7, .ptr ba 0 1 0 0), (9, .ptr bx 0 1 0 0)]) z := by
  have hs := h.sizes
  have hlen : (List.range nb).length = nb := List.length_range
  rcases all_rule (List.range nb) (fun _ => true) [0, 1, 7, 9, 26] (fun k => [(0, P0), (1, .int .i64 (nb : Int)), (7, .ptr ba 0 1 0 0), (9, .ptr bx 0 1 0 0), (26, .int .i64 (k : Int))]) H [] (evCode (evC cprog) itLim c8_l1) (fun x T => x = .exit 3 ∧ keepEnv T [0, 1, 7, 9] = [(0, P0), (1, .int .i64 (nb : Int)), (7, .ptr ba 0 1 0 0), (9, .ptr bx 0 1 0 0)]) (fun _ _ => False)
    (fun k c hk E G hE => by
      have hlt : k < nb := by have := (List.getElem?_eq_some_iff.1 hk).1; omega
      have hi : (k : Int) < (nb : Int) := by omega
      obtain ⟨r1, r2⟩ := (h.app G).reads k
      simp only [c8_l1, hE, hi, r1, r2, beq_self_eq_true, wrapS hlt (by omega : nb < 9223372036854775807), evX, Int.reduceEq, Int.reduceLT, Int.reduceLE, Nat.reduceMul, Nat.reduceMod, evW, fn_eq, evR, Nat.reduceAdd, Nat.reduceLT, Nat.reduceLeDiff, reduceIte, Nat.reduceEqDiff, reduceCtorEq, argEnv, eq_self, if_true, if_false]
      repeat' (first | (rw [guardK_cases]; split <;> simp only [c8_l1, hE, hi, r1, r2, beq_self_eq_true, wrapS hlt (by omega : nb < 9223372036854775807), evX, Int.reduceEq, Int.reduceLT, Int.reduceLE, Nat.reduceMul, Nat.reduceMod, evW, evR, Nat.reduceAdd, Nat.reduceLT, Nat.reduceLeDiff, reduceIte, Nat.reduceEqDiff, reduceCtorEq, argEnv, eq_self, if_true, if_false, *]) | (rw [condK_bool]; split <;> simp only [c8_l1, hE, hi, r1, r2, beq_self_eq_true, wrapS hlt (by omega : nb < 9223372036854775807), evX, Int.reduceEq, Int.reduceLT, Int.reduceLE, Nat.reduceMul, Nat.reduceMod, evW, evR, Nat.reduceAdd, Nat.reduceLT, Nat.reduceLeDiff, reduceIte, Nat.reduceEqDiff, reduceCtorEq, argEnv, eq_self, if_true, if_false, *]) | (rw [guardD_cases]; split <;> simp only [c8_l1, hE, hi, r1, r2, beq_self_eq_true, wrapS hlt (by omega : nb < 9223372036854775807), evX, Int.reduceEq, Int.reduceLT, Int.reduceLE, Nat.reduceMul, Nat.reduceMod, evW, evR, Nat.reduceAdd, Nat.reduceLT, Nat.reduceLeDiff, reduceIte, Nat.reduceEqDiff, reduceCtorEq, argEnv, eq_self, if_true, if_false, *]))
      exact Sc.next (K := []) rfl (by rfl))
    (fun E G hE => by
      rw [hlen] at hE
      simp only [c8_l1, hE, Int.lt_irrefl, evX, Int.reduceEq, Int.reduceLT, Int.reduceLE, Nat.reduceMul, Nat.reduceMod, evW, fn_eq, evR, Nat.reduceAdd, Nat.reduceLT, Nat.reduceLeDiff, reduceIte, Nat.reduceEqDiff, reduceCtorEq, argEnv, eq_self, if_true, if_false]
      repeat' (first | (rw [guardK_cases]; split <;> simp only [c8_l1, hE, Int.lt_irrefl, evX, Int.reduceEq, Int.reduceLT, Int.reduceLE, Nat.reduceMul, Nat.reduceMod, evW, evR, Nat.reduceAdd, Nat.reduceLT, Nat.reduceLeDiff, reduceIte, Nat.reduceEqDiff, reduceCtorEq, argEnv, eq_self, if_true, if_false, *]) | (rw [condK_bool]; split <;> simp only [c8_l1, hE, Int.lt_irrefl, evX, Int.reduceEq, Int.reduceLT, Int.reduceLE, Nat.reduceMul, Nat.reduceMod, evW, evR, Nat.reduceAdd, Nat.reduceLT, Nat.reduceLeDiff, reduceIte, Nat.reduceEqDiff, reduceCtorEq, argEnv, eq_self, if_true, if_false, *]) | (rw [guardD_cases]; split <;> simp only [c8_l1, hE, Int.lt_irrefl, evX, Int.reduceEq, Int.reduceLT, Int.reduceLE, Nat.reduceMul, Nat.reduceMod, evW, evR, Nat.reduceAdd, Nat.reduceLT, Nat.reduceLeDiff, reduceIte, Nat.reduceEqDiff, reduceCtorEq, argEnv, eq_self, if_true, if_false, *]))
      exact .exit (K := []) ⟨rfl, by rfl⟩) st [] hE (by simp [hH]) z hz with ⟨_, h⟩ | ⟨h, _⟩
  · exact h
  · rw [List.all_eq_false] at h
    obtain ⟨_, _, h⟩ := h
    exact absurd rfl h
theorem l8_3 (h : Two H ba bx nb cs) (st : St) (hE : keepEnv st.1 [1, 7, 9, 36] = [(1, .int .i64 (nb : Int)), (7, .ptr ba 0 1 0 0), (9, .ptr bx 0 1 0 0), (36, .int .i64 0)]) (hH : st.2 = H) (z : Option (CX × St)) (hz : itLim (evCode (evC cprog) itLim c8_l3) st = z) :
    Lv H [] (fun x T => x = .exit 7) z := by
  have hs := h.sizes
  have hlen : (List.range nb).length = nb := List.length_range
  rcases all_rule (List.range nb) (fun _ => true) [1, 7, 9, 36] (fun k => [(1, .int .i64 (nb : Int)), (7, .ptr ba 0 1 0 0), (9, .ptr bx 0 1 0 0), (36, .int .i64 (k : Int))]) H [] (evCode (evC cprog) itLim c8_l3) (fun x T => x = .exit 7) (fun _ _ => False)
    (fun k c hk E G hE => by
      have hlt : k < nb := by have := (List.getElem?_eq_some_iff.1 hk).1; omega
      have hi : (k : Int) < (nb : Int) := by omega
      obtain ⟨r1, r2⟩ := (h.app G).lefts k
      simp only [c8_l3, hE, hi, r1, r2, beq_self_eq_true, wrapS hlt (by omega : nb < 9223372036854775807), evX, Int.reduceEq, Int.reduceLT, Int.reduceLE, Nat.reduceMul, Nat.reduceMod, evW, fn_eq, evR, Nat.reduceAdd, Nat.reduceLT, Nat.reduceLeDiff, reduceIte, Nat.reduceEqDiff, reduceCtorEq, argEnv, eq_self, if_true, if_false]
      repeat' (first | (rw [guardK_cases]; split <;> simp only [c8_l3, hE, hi, r1, r2, beq_self_eq_true, wrapS hlt (by omega : nb < 9223372036854775807), evX, Int.reduceEq, Int.reduceLT, Int.reduceLE, Nat.reduceMul, Nat.reduceMod, evW, evR, Nat.reduceAdd, Nat.reduceLT, Nat.reduceLeDiff, reduceIte, Nat.reduceEqDiff, reduceCtorEq, argEnv, eq_self, if_true, if_false, *]) | (rw [condK_bool]; split <;> simp only [c8_l3, hE, hi, r1, r2, beq_self_eq_true, wrapS hlt (by omega : nb < 9223372036854775807), evX, Int.reduceEq, Int.reduceLT, Int.reduceLE, Nat.reduceMul, Nat.reduceMod, evW, evR, Nat.reduceAdd, Nat.reduceLT, Nat.reduceLeDiff, reduceIte, Nat.reduceEqDiff, reduceCtorEq, argEnv, eq_self, if_true, if_false, *]) | (rw [guardD_cases]; split <;> simp only [c8_l3, hE, hi, r1, r2, beq_self_eq_true, wrapS hlt (by omega : nb < 9223372036854775807), evX, Int.reduceEq, Int.reduceLT, Int.reduceLE, Nat.reduceMul, Nat.reduceMod, evW, evR, Nat.reduceAdd, Nat.reduceLT, Nat.reduceLeDiff, reduceIte, Nat.reduceEqDiff, reduceCtorEq, argEnv, eq_self, if_true, if_false, *]))
      exact Sc.next (K := []) rfl (by rfl))
    (fun E G hE => by
      rw [hlen] at hE
      simp only [c8_l3, hE, Int.lt_irrefl, evX, Int.reduceEq, Int.reduceLT, Int.reduceLE, Nat.reduceMul, Nat.reduceMod, evW, fn_eq, evR, Nat.reduceAdd, Nat.reduceLT, Nat.reduceLeDiff, reduceIte, Nat.reduceEqDiff, reduceCtorEq, argEnv, eq_self, if_true, if_false]
      repeat' (first | (rw [guardK_cases]; split <;> simp only [c8_l3, hE, Int.lt_irrefl, evX, Int.reduceEq, Int.reduceLT, Int.reduceLE, Nat.reduceMul, Nat.reduceMod, evW, evR, Nat.reduceAdd, Nat.reduceLT, Nat.reduceLeDiff, reduceIte, Nat.reduceEqDiff, reduceCtorEq, argEnv, eq_self, if_true, if_false, *]) | (rw [condK_bool]; split <;> simp only [c8_l3, hE, Int.lt_irrefl, evX, Int.reduceEq, Int.reduceLT, Int.reduceLE, Nat.reduceMul, Nat.reduceMod, evW, evR, Nat.reduceAdd, Nat.reduceLT, Nat.reduceLeDiff, reduceIte, Nat.reduceEqDiff, reduceCtorEq, argEnv, eq_self, if_true, if_false, *]) | (rw [guardD_cases]; split <;> simp only [c8_l3, hE, Int.lt_irrefl, evX, Int.reduceEq, Int.reduceLT, Int.reduceLE, Nat.reduceMul, Nat.reduceMod, evW, evR, Nat.reduceAdd, Nat.reduceLT, Nat.reduceLeDiff, reduceIte, Nat.reduceEqDiff, reduceCtorEq, argEnv, eq_self, if_true, if_false, *]))
      exact .exit (K := []) rfl) st [] hE (by simp [hH]) z hz with ⟨_, h⟩ | ⟨h, _⟩
  · exact h
  · rw [List.all_eq_false] at h
    obtain ⟨_, _, h⟩ := h
    exact absurd rfl h
theorem repair_len (cs : List (List Bk)) (nb : Nat) (i : Int) : (repairA cs nb i).2.length = cs.length := by
  unfold repairA
  split
  · rfl
  · split
    · rfl
    · simp
theorem l8_2 (m : Nat) (hm : m < 10) (h : Two H ba bx nb cs) (st : St) (hE : keepEnv st.1 [0, 1, 7, 9, 31] = [(0, .int .i64 (m : Int)), (1, .int .i64 (nb : Int)), (7, .ptr ba 0 1 0 0), (9, .ptr bx 0 1 0 0), (31, .int .i64 0)]) (hH : st.2 = H) (z : Option (CX × St)) (hz : itLim (evCode (evC cprog) itLim c8_l2) st = z) :
    ∃ T H' cs', z = some (.exit 5, T, H') ∧ keepEnv T [1, 7, 9] = [(1, .int .i64 (nb : Int)), (7, .ptr ba 0 1 0 0), (9, .ptr bx 0 1 0 0)] ∧ Two H' ba bx nb cs' := by
  have hs := h.sizes
  have L := loop_rule (σ := Nat × Heap × List (List Bk)) (m := [0, 1, 7, 9, 31]) (env := fun k => [(0, .int .i64 (m : Int)), (1, .int .i64 (nb : Int)), (7, .ptr ba 0 1 0 0), (9, .ptr bx 0 1 0 0), (31, .int .i64 (k.1 : Int))]) (hp := fun k => k.2.1)
    (P := fun _ r => ∃ T H' cs', r = (.exit 5, T, H') ∧ keepEnv T [1, 7, 9] = [(1, .int .i64 (nb : Int)), (7, .ptr ba 0 1 0 0), (9, .ptr bx 0 1 0 0)] ∧ Two H' ba bx nb cs')
    (mu := fun k => m - k.1) (I := fun k => k.1 ≤ m ∧ Two k.2.1 ba bx nb k.2.2) (evCode (evC cprog) itLim c8_l2) ?_ (0, H, cs) st ⟨Nat.zero_le _, h⟩ hE hH z hz
  · obtain ⟨r, rfl, T, H', cs', rfl, h1⟩ := L
    exact ⟨T, H', cs', rfl, h1⟩
  · intro ⟨k, Hc, c⟩ ⟨hk, hI⟩ E hE
    simp only at hk hI hE ⊢
    by_cases hlt : k < m
    · have hi : (k : Int) < (m : Int) := by omega
      obtain ⟨H1, H2, r1, r2, hI', _⟩ := hI.repairs k
      simp only [c8_l2, hE, hi, r1, r2, wrapS hlt (by omega : m < 9223372036854775807), evX, Int.reduceEq, Int.reduceLT, Int.reduceLE, Nat.reduceMul, Nat.reduceMod, evW, fn_eq, evR, Nat.reduceAdd, Nat.reduceLT, Nat.reduceLeDiff, reduceIte, Nat.reduceEqDiff, reduceCtorEq, argEnv, eq_self, if_true, if_false]
      repeat' (first | (rw [guardK_cases]; split <;> simp only [c8_l2, hE, hi, r1, r2, wrapS hlt (by omega : m < 9223372036854775807), evX, Int.reduceEq, Int.reduceLT, Int.reduceLE, Nat.reduceMul, Nat.reduceMod, evW, evR, Nat.reduceAdd, Nat.reduceLT, Nat.reduceLeDiff, reduceIte, Nat.reduceEqDiff, reduceCtorEq, argEnv, eq_self, if_true, if_false, *]) | (rw [condK_bool]; split <;> simp only [c8_l2, hE, hi, r1, r2, wrapS hlt (by omega : m < 9223372036854775807), evX, Int.reduceEq, Int.reduceLT, Int.reduceLE, Nat.reduceMul, Nat.reduceMod, evW, evR, Nat.reduceAdd, Nat.reduceLT, Nat.reduceLeDiff, reduceIte, Nat.reduceEqDiff, reduceCtorEq, argEnv, eq_self, if_true, if_false, *]) | (rw [guardD_cases]; split <;> simp only [c8_l2, hE, hi, r1, r2, wrapS hlt (by omega : m < 9223372036854775807), evX, Int.reduceEq, Int.reduceLT, Int.reduceLE, Nat.reduceMul, Nat.reduceMod, evW, evR, Nat.reduceAdd, Nat.reduceLT, Nat.reduceLeDiff, reduceIte, Nat.reduceEqDiff, reduceCtorEq, argEnv, eq_self, if_true, if_false, *]))
      exact q_next (k + 1, H2, _) (by rfl) rfl ⟨by omega, hI'⟩ (by simp only; omega) fun r hP => hP
    · have : k = m := by omega
      subst this
      simp only [c8_l2, hE, Int.lt_irrefl, evX, Int.reduceEq, Int.reduceLT, Int.reduceLE, Nat.reduceMul, Nat.reduceMod, evW, fn_eq, evR, Nat.reduceAdd, Nat.reduceLT, Nat.reduceLeDiff, reduceIte, Nat.reduceEqDiff, reduceCtorEq, argEnv, eq_self, if_true, if_false]
      repeat' (first | (rw [guardK_cases]; split <;> simp only [c8_l2, hE, Int.lt_irrefl, evX, Int.reduceEq, Int.reduceLT, Int.reduceLE, Nat.reduceMul, Nat.reduceMod, evW, evR, Nat.reduceAdd, Nat.reduceLT, Nat.reduceLeDiff, reduceIte, Nat.reduceEqDiff, reduceCtorEq, argEnv, eq_self, if_true, if_false, *]) | (rw [condK_bool]; split <;> simp only [c8_l2, hE, Int.lt_irrefl, evX, Int.reduceEq, Int.reduceLT, Int.reduceLE, Nat.reduceMul, Nat.reduceMod, evW, evR, Nat.reduceAdd, Nat.reduceLT, Nat.reduceLeDiff, reduceIte, Nat.reduceEqDiff, reduceCtorEq, argEnv, eq_self, if_true, if_false, *]) | (rw [guardD_cases]; split <;> simp only [c8_l2, hE, Int.lt_irrefl, evX, Int.reduceEq, Int.reduceLT, Int.reduceLE, Nat.reduceMul, Nat.reduceMod, evW, evR, Nat.reduceAdd, Nat.reduceLT, Nat.reduceLeDiff, reduceIte, Nat.reduceEqDiff, reduceCtorEq, argEnv, eq_self, if_true, if_false, *]))
      exact q_exit ⟨_, Hc, c, rfl, by rfl, hI⟩
end
end Go.Proofs.Ytehcdcnghcbimaa.Code
