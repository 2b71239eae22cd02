/- slices.Insert, walked: each of its ways. -/
import Derived.Test.YtondenmkhfignaaDoorProg
import Derived.Test.YtondenmkhfignaaDoorEvP
import Derived.WalkKit
import Derived.BigRegion
import Derived.Below
import Derived.Deep.RegionLaw
import Derived.Lib.Overlaps
import Derived.Lib.AppendZerosOnto
import Derived.Laws.Externs
set_option linter.unusedSimpArgs false
set_option linter.unusedVariables false
namespace Go.Proofs.YtondenmkhfignaaDoor.Code
open Go Go.Proofs Go.RowKit Go.Proofs.YtondenmkhfignaaDoor.Ev

theorem wl_cpy {P : Program} (w : World) {ops : Array Oper} {rest : List Oper} {o : Oper} {a : Act} {Q : Exit → Act → World → Prop} (hgd : o.guard = none) (d s : Operand) (t t' : TypeId)
    (ho : o.op = .call { callee := .builtin .copy, args := #[d, s], argTypes := #[t, t'] }) (v u : Value) (hd : a.eval d = v) (hs : a.eval s = u) {v' : Value} {w' : World}
    (hr : (Builtin.copy_ #[t, t'] o.type #[v, u]).run P w = .ok v' w') (h : wpList P ops Q rest (a.put o.dst v') w') : wpList P ops Q (o :: rest) a w :=
  wpList_plain hgd fun K hK => by
    unfold Oper.wp execOp
    simp only [ho, resolve, invoke, builtin, Sem.run_bind, Sem.run_pure, Result.andThen_ok, List.map_toArray, List.map_cons, List.map_nil, hd, hs, hr]
    exact hK _ _ h
theorem st_cpy {P : Program} {ops : Array Oper} {o : Oper} {a : Act} {w : World} {K : Act → World → Prop} {Q : Exit → Act → World → Prop} {E : Prop}
    (hg : o.guard = none) (d x : Operand) (dT sT : TypeId) (hop : o.op = Op.call { callee := Callee.builtin Builtin.copy, args := #[d, x], argTypes := #[dT, sT] })
    (v u : Value) (hd : a.eval d = v) (hx : a.eval x = u) {v' : Value} {w' : World} (hr : (Builtin.copy_ #[dT, sT] o.type #[v, u]).run P w = .ok v' w') (hK : K (a.put o.dst v') w') :
    if Region.wanted o (yielded ops a.tmps) = true then Oper.wp P o a w K Q else E := by
  rw [if_pos (by simp [Region.wanted, hg])]
  unfold Oper.wp
  simp [execOp, hop, resolve, invoke, builtin, hd, hx, hr, Result.andThen]
  exact hK
theorem wl_app {P : Program} (w : World) {ops : Array Oper} {rest : List Oper} {o : Oper} {a : Act} {Q : Exit → Act → World → Prop} (hgd : o.guard = none) (d s : Operand) (t t' : TypeId)
    (ho : o.op = .call { callee := .builtin .append, args := #[d, s], argTypes := #[t, t'] }) (v u : Value) (hd : a.eval d = v) (hs : a.eval s = u) {v' : Value} {w' : World}
    (hr : (Builtin.append_ #[t, t'] o.type #[v, u]).run P w = .ok v' w') (h : wpList P ops Q rest (a.put o.dst v') w') : wpList P ops Q (o :: rest) a w :=
  wpList_plain hgd fun K hK => by
    unfold Oper.wp execOp
    simp only [ho, resolve, invoke, builtin, Sem.run_bind, Sem.run_pure, Result.andThen_ok, List.map_toArray, List.map_cons, List.map_nil, hd, hs, hr]
    exact hK _ _ h
theorem ins_und : Tryd.prog.underlying 30 = some (.slice 46) := by kernel_rfl
theorem ins_sz : sizeT Tryd.prog 46 = some 2 := by kernel_rfl
theorem ins_ov (w : World) (g gv m vc o lb cb : Nat) (cur curv : Array Value) (hne : gv ≠ g) (hh : w.heap[g]? = some (.cells cur 46 (0, 0))) (hhv : w.heap[gv]? = some (.cells curv 46 (0, 0))) (hk : cur.size ≠ 0) :
    (callFunc 41 #[.slice (some ⟨gv, 0, none⟩) m vc, .slice (some ⟨g, o, none⟩) lb cb]).run Tryd.prog w = .ok (.value (.bool false)) w := by
  rw [run_callFunc_extern Tryd.func41 (by kernel_rfl) (by kernel_rfl) (by kernel_rfl) (e := Extern.SlicesOverlaps.overlaps #[30, 30] #[4]) (by kernel_rfl),
    Lib.run_overlaps_apart w 30 4 46 ins_und 2 (fun w => run_sizeT w ins_sz) ⟨gv, 0, none⟩ ⟨g, o, none⟩ m vc lb cb hne 46 46 curv.size cur.size (by simp [World.shape?, hhv]) (by simp [World.shape?, hh]) hk (by simp [World.frozen?, hhv]) (by simp [World.frozen?, hhv])]
  rfl
/-- cells laid over others -/
def over (cur : Array Value) (o : Nat) (news : List Value) : Array Value := (cur.toList.take o ++ news ++ cur.toList.drop (o + news.length)).toArray
theorem over_size {cur : Array Value} {o : Nat} {news : List Value} (h : o + news.length ≤ cur.size) : (over cur o news).size = cur.size := by simp [over]; omega
/-- the cells from a place on, so many -/
def part (cur : Array Value) (o n : Nat) : List Value := (cur.toList.drop o).take n
theorem part_len {cur : Array Value} {o n : Nat} (h : o + n ≤ cur.size) : (part cur o n).length = n := by simp [part]; omega
set_option maxHeartbeats 4000000 in
set_option maxRecDepth 100000 in
/-- in the midst, where there is room -/
theorem ins_shift (w : World) (g gv n c i vc : Nat) (cur curv : Array Value) (hi : i < n) (hroom : n + 1 ≤ c) (hc : c ≤ 9223372036854775807) (hne : gv ≠ g) (hh : w.heap[g]? = some (.cells cur 46 (0, 0))) (hhv : w.heap[gv]? = some (.cells curv 46 (0, 0)))
    (hsz : cur.size = c * 2) (hszv : 2 ≤ curv.size) (h1 : ∀ v ∈ part cur (i * 2) ((n - i) * 2), v.oneCell' = true) (h2 : ∀ v ∈ part curv 0 2, v.oneCell' = true) :
    Calls Tryd.prog 26 #[.slice (some ⟨g, 0, none⟩) n c, .int .i64 i, .slice (some ⟨gv, 0, none⟩) 1 vc] w fun e w' =>
      e = .returned (.slice (some ⟨g, 0, none⟩) (n + 1) c) ∧ w' = (w.drew.setRow g (over cur ((i + 1) * 2) (part cur (i * 2) ((n - i) * 2)))).setRow g (over (over cur ((i + 1) * 2) (part cur (i * 2) ((n - i) * 2))) (i * 2) (part curv 0 2)) := by
  have l1 : (part cur (i * 2) ((n - i) * 2)).length = (n - i) * 2 := part_len (by omega)
  have l2 : (part curv 0 2).length = 2 := part_len (by omega)
  have hov := fun lb cb => ins_ov w g gv 1 vc ((i + 1) * 2) lb cb cur curv hne hh hhv (by omega)
  have hcp1 : ∀ ty dc sc, (Builtin.copy_ #[30, 30] ty #[.slice (some ⟨g, (i + 1) * 2, none⟩) (n - i) dc, .slice (some ⟨g, i * 2, none⟩) (n + 1 - i) sc]).run Tryd.prog w.drew = .ok (goInt (n - i : Nat)) (w.drew.setRow g (over cur ((i + 1) * 2) (part cur (i * 2) ((n - i) * 2)))) := fun ty dc sc =>
    run_copy_at ty ins_und ins_sz w.drew g ((i + 1) * 2) _ dc _ _ (n - i) (by simp only [Nat.min_def]; split <;> omega) (part cur (i * 2) ((n - i) * 2)) (lenOf_slice ..) (run_first_at w.drew g _ _ sc (n - i) 2 cur 46 hh (by omega)) cur 46 hh (by rw [l1]; omega) h1
  have hg1 : (w.drew.setRow g (over cur ((i + 1) * 2) (part cur (i * 2) ((n - i) * 2)))).heap[g]? = some (.cells (over cur ((i + 1) * 2) (part cur (i * 2) ((n - i) * 2))) 46 (0, 0)) := setRow_heap w.drew g cur _ 46 (0, 0) hh
  have hg2 : (w.drew.setRow g (over cur ((i + 1) * 2) (part cur (i * 2) ((n - i) * 2)))).heap[gv]? = some (.cells curv 46 (0, 0)) := by rw [setRow_other _ _ _ _ hne]; exact hhv
  have ho1 : (over cur ((i + 1) * 2) (part cur (i * 2) ((n - i) * 2))).size = c * 2 := by rw [over_size (by rw [l1]; omega), hsz]
  have hcp2 : ∀ ty dc, (Builtin.copy_ #[30, 30] ty #[.slice (some ⟨g, i * 2, none⟩) (n + 1 - i) dc, .slice (some ⟨gv, 0, none⟩) 1 vc]).run Tryd.prog (w.drew.setRow g (over cur ((i + 1) * 2) (part cur (i * 2) ((n - i) * 2)))) = .ok (goInt (1 : Nat)) ((w.drew.setRow g (over cur ((i + 1) * 2) (part cur (i * 2) ((n - i) * 2)))).setRow g (over (over cur ((i + 1) * 2) (part cur (i * 2) ((n - i) * 2))) (i * 2) (part curv 0 2))) := fun ty dc =>
    run_copy_at ty ins_und ins_sz (w.drew.setRow g (over cur ((i + 1) * 2) (part cur (i * 2) ((n - i) * 2)))) g (i * 2) _ dc _ _ 1 (by simp only [Nat.min_def]; split <;> omega) (part curv 0 2) (lenOf_slice ..) (by have := run_first_at (P := Tryd.prog) (w.drew.setRow g (over cur ((i + 1) * 2) (part cur (i * 2) ((n - i) * 2)))) gv 0 1 vc 1 2 curv 46 hg2 (by omega); rwa [Nat.one_mul] at this) _ 46 hg1 (by rw [l2, ho1]; omega) h2
  have hz1 : ¬ ((1 : Int) = 0) := by omega
  have hz2 : ¬ ((i : Int) = (n : Int)) := by omega
  have hw1 : IntKind.i64.wrap ((i : Int) + 1) = (i : Int) + 1 := by rw [IntKind.wrap_i64]; omega
  have hw2 : IntKind.i64.wrap ((n : Int) + 1) = (n : Int) + 1 := by rw [IntKind.wrap_i64]; omega
  have hb1 : (0 : Int) ≤ (i : Int) + 1 := by omega
  have hb2 : ¬ c = i + 1 := by omega
  have hb3 : (i : Int) ≤ (n : Int) + 1 := by omega
  have hb4 : ¬ c = i := by omega
  have hin : i ≤ n := by omega
  have htn : ((i : Int) + 1).toNat = i + 1 := by omega
  go_enter Tryd.func26, Tryd.ntmps26
  go_wp2_with (simp only [hov])
  go_region_law (refine st_cpy rfl _ _ 30 30 rfl _ _ (by simp [Act.eval, Act.put]) (by simp [Act.eval, Act.put]) (hcp1 _ _ _) ?_)
  go_wp2_with (at_builtin; refine wl_cpy _ rfl _ _ 30 30 rfl _ _ rfl rfl (hcp2 _ _) ?_)
  go_ret
  exact ⟨rfl, rfl⟩
theorem ins_info : (match Tryd.prog.info? 46 with | some i => decide (i.size = 2) && decide (i.bytes = 24) && (match i.zero with | some z => decide (z.cells.size = 2) | none => false) | none => false) = true := by kernel_rfl
theorem ins_inf : ∃ (i : TypeInfo) (z : Value), Tryd.prog.info? 46 = some i ∧ i.size = 2 ∧ i.bytes = 24 ∧ i.zero = some z ∧ z.cells.size = 2 := by
  have h := ins_info
  split at h
  · rename_i i hi
    simp only [Bool.and_eq_true, decide_eq_true_eq] at h
    obtain ⟨⟨h1, h2⟩, h3⟩ := h
    split at h3
    · rename_i z hz
      exact ⟨i, z, hi, h1, h2, hz, of_decide_eq_true h3⟩
    · cases h3
  · cases h
theorem ins_int : Tryd.prog.underlying 3 = some (.int .i64) := by kernel_rfl
set_option maxHeartbeats 4000000 in
set_option maxRecDepth 100000 in
/-- at the end, where there is room -/
theorem ins_room (w : World) (g gv n c vc : Nat) (cur curv : Array Value) (hroom : n + 1 ≤ c) (hc : c ≤ 9223372036854775807) (hh : w.heap[g]? = some (.cells cur 46 (0, 0))) (hhv : w.heap[gv]? = some (.cells curv 46 (0, 0)))
    (hsz : cur.size = c * 2) (hszv : 2 ≤ curv.size) (h2 : ∀ v ∈ part curv 0 2, v.oneCell' = true) :
    Calls Tryd.prog 26 #[.slice (some ⟨g, 0, none⟩) n c, .int .i64 n, .slice (some ⟨gv, 0, none⟩) 1 vc] w fun e w' =>
      e = .returned (.slice (some ⟨g, 0, none⟩) (n + 1) c) ∧ w' = w.setRow g (over cur (n * 2) (part curv 0 2)) := by
  obtain ⟨i0, z, hi, hi1, hi2, hz, hzc⟩ := ins_inf
  have l2 : (part curv 0 2).length = 2 := part_len (by omega)
  have hf : (Builtin.firstCells i0.size 1 (.slice (some ⟨gv, 0, none⟩) 1 vc)).run Tryd.prog w = .ok (part curv 0 2).toArray w := by
    rw [hi1]
    have := run_first_at (P := Tryd.prog) w gv 0 1 vc 1 2 curv 46 hhv (by omega)
    rwa [Nat.one_mul] at this
  have hst := run_storeCells_at Tryd.prog g (n * 2) 46 (part curv 0 2) 0 cur w hh (by rw [l2]; omega) h2
  simp only [Nat.add_zero] at hst
  have hrun : ∀ ty, (Builtin.append_ #[30, 30] ty #[.slice (some ⟨g, 0, none⟩) n c, .slice (some ⟨gv, 0, none⟩) 1 vc]).run Tryd.prog w = .ok (.slice (some ⟨g, 0, none⟩) (n + 1) c) (w.setRow g (over cur (n * 2) (part curv 0 2))) := fun ty => by
    rw [run_app_room Tryd.prog ins_und hi (.inl ⟨_, ins_und⟩) w (some ⟨g, 0, none⟩) n c _ 1 _ (lenOf_slice ..) hf hroom]
    simp only [Addr.add_lit, Nat.zero_add, hi1, hst, Result.andThen_ok]
    rfl
  have hz1 : ¬ ((1 : Int) = 0) := by omega
  go_enter Tryd.func26, Tryd.ntmps26
  go_wp2_with (at_builtin; refine wl_app _ rfl _ _ 30 30 rfl _ _ rfl rfl (hrun _) ?_)
  go_ret
  exact ⟨rfl, rfl⟩
set_option maxHeartbeats 4000000 in
set_option maxRecDepth 100000 in
/-- at the end, where there is no room: a block of its own -/
theorem ins_tail (w : World) (g gv n c vc : Nat) (cur curv : Array Value) (z : Value) (hzi : (Tryd.prog.info? 46).bind (·.zero) = some z) (hnc : n ≤ c) (hroom : c < n + 1) (hbig : (n + 1) * 24 ≤ reach) (hr : n + 1 ≤ reach) (hh : w.heap[g]? = some (.cells cur 46 (0, 0))) (hhv : w.heap[gv]? = some (.cells curv 46 (0, 0)))
    (hsz : cur.size = c * 2) (hszv : 2 ≤ curv.size) :
    Calls Tryd.prog 26 #[.slice (some ⟨g, 0, none⟩) n c, .int .i64 n, .slice (some ⟨gv, 0, none⟩) 1 vc] w fun e w' =>
      e = .returned (.slice (some ⟨w.heap.size, 0, none⟩) (n + 1) (grownCap w (n + 1) c 46)) ∧ w' = w.drew.alloc (.cells ((part cur 0 (n * 2) ++ part curv 0 2).toArray ++ Builtin.zeroCells z.cells (grownCap w (n + 1) c 46 - (n + 1))) 46) := by
  obtain ⟨i0, z', hi, hi1, hi2, hz, hzc⟩ := ins_inf
  rw [hi] at hzi
  simp only [Option.bind_some, hz, Option.some.injEq] at hzi
  subst hzi
  have hf : (Builtin.firstCells i0.size 1 (.slice (some ⟨gv, 0, none⟩) 1 vc)).run Tryd.prog w.drew = .ok (part curv 0 2).toArray w.drew := by
    rw [hi1]
    have := run_first_at (P := Tryd.prog) w.drew gv 0 1 vc 1 2 curv 46 hhv (by omega)
    rwa [Nat.one_mul] at this
  have ho : (Builtin.firstCells i0.size n (.slice (some ⟨g, 0, none⟩) n c)).run Tryd.prog w.drew = .ok (part cur 0 (n * 2)).toArray w.drew := by
    rw [hi1]
    exact run_first_at (P := Tryd.prog) w.drew g 0 n c n 2 cur 46 hh (by omega)
  have hrun : ∀ ty, (Builtin.append_ #[30, 30] ty #[.slice (some ⟨g, 0, none⟩) n c, .slice (some ⟨gv, 0, none⟩) 1 vc]).run Tryd.prog w = .ok (.slice (some ⟨w.heap.size, 0, none⟩) (n + 1) (grownCap w (n + 1) c 46)) (w.drew.alloc (.cells ((part cur 0 (n * 2) ++ part curv 0 2).toArray ++ Builtin.zeroCells z'.cells (grownCap w (n + 1) c 46 - (n + 1))) 46)) := fun ty => by
    rw [run_app_grow Tryd.prog (ty := ty) ins_und hi hz (.inl ⟨_, ins_und⟩) w (some ⟨g, 0, none⟩) n c _ 1 _ _ (lenOf_slice ..) hf ho hroom hr (by rw [hi2]; exact hbig)]
    simp
  have hz1 : ¬ ((1 : Int) = 0) := by omega
  obtain ⟨Z, hZ⟩ : ∃ Z, Z = Builtin.zeroCells z'.cells (grownCap w (n + 1) c 46 - (n + 1)) := ⟨_, rfl⟩
  rw [← hZ] at hrun ⊢
  clear hZ
  go_enter Tryd.func26, Tryd.ntmps26
  go_wp2_with (at_builtin; refine wl_app _ rfl _ _ 30 30 rfl _ _ rfl rfl (hrun _) ?_)
  go_ret
  exact ⟨rfl, rfl⟩
set_option maxHeartbeats 4000000 in
set_option maxRecDepth 100000 in
/-- into nothing -/
theorem ins_none (w : World) (ad : Option Addr) (gv vc : Nat) (curv : Array Value) (z : Value) (hzi : (Tryd.prog.info? 46).bind (·.zero) = some z) (hhv : w.heap[gv]? = some (.cells curv 46 (0, 0))) (hszv : 2 ≤ curv.size) :
    Calls Tryd.prog 26 #[.slice ad 0 0, .int .i64 0, .slice (some ⟨gv, 0, none⟩) 1 vc] w fun e w' =>
      e = .returned (.slice (some ⟨w.heap.size, 0, none⟩) 1 (grownCap w 1 0 46)) ∧ w' = w.drew.alloc (.cells ((part curv 0 2).toArray ++ Builtin.zeroCells z.cells (grownCap w 1 0 46 - 1)) 46) := by
  obtain ⟨i0, z', hi, hi1, hi2, hz, hzc⟩ := ins_inf
  rw [hi] at hzi
  simp only [Option.bind_some, hz, Option.some.injEq] at hzi
  subst hzi
  have hf : (Builtin.firstCells i0.size 1 (.slice (some ⟨gv, 0, none⟩) 1 vc)).run Tryd.prog w.drew = .ok (part curv 0 2).toArray w.drew := by
    rw [hi1]
    have := run_first_at (P := Tryd.prog) w.drew gv 0 1 vc 1 2 curv 46 hhv (by omega)
    rwa [Nat.one_mul] at this
  have ho : (Builtin.firstCells i0.size 0 (.slice ad 0 0)).run Tryd.prog w.drew = .ok ([] : List Value).toArray w.drew := by cases ad <;> simp [Builtin.firstCells, loadCells, loadCellsFrom]
  have hrun : ∀ ty, (Builtin.append_ #[30, 30] ty #[.slice ad 0 0, .slice (some ⟨gv, 0, none⟩) 1 vc]).run Tryd.prog w = .ok (.slice (some ⟨w.heap.size, 0, none⟩) 1 (grownCap w 1 0 46)) (w.drew.alloc (.cells ((part curv 0 2).toArray ++ Builtin.zeroCells z'.cells (grownCap w 1 0 46 - 1)) 46)) := fun ty => by
    rw [run_app_grow Tryd.prog (ty := ty) ins_und hi hz (.inl ⟨_, ins_und⟩) w ad 0 0 _ 1 _ _ (lenOf_slice ..) hf ho (by omega) (by unfold reach; omega) (by rw [hi2]; unfold reach; omega)]
    simp only [Nat.zero_add]
    simp
  have hz1 : ¬ ((1 : Int) = 0) := by omega
  obtain ⟨Z, hZ⟩ : ∃ Z, Z = Builtin.zeroCells z'.cells (grownCap w 1 0 46 - 1) := ⟨_, rfl⟩
  rw [← hZ] at hrun ⊢
  clear hZ
  go_enter Tryd.func26, Tryd.ntmps26
  cases ad with
  | none =>
    go_wp2_with (at_builtin; refine wl_app _ rfl _ _ 30 30 rfl _ _ rfl rfl (hrun _) ?_)
    go_ret
    exact ⟨rfl, rfl⟩
  | some a =>
    obtain ⟨ab, ao, asp⟩ := a
    go_wp2_with (at_builtin; refine wl_app _ rfl _ _ 30 30 rfl _ _ rfl rfl (hrun _) ?_)
    all_goals (go_ret; exact ⟨rfl, rfl⟩)
set_option maxHeartbeats 4000000 in
set_option maxRecDepth 100000 in
/-- in the midst, where there is no room: a block of its own -/
theorem ins_grow (w : World) (g gv n c i vc : Nat) (cur curv : Array Value) (hi : i < n) (hnc : n ≤ c) (hroom : c < n + 1) (hbig : (n + 1) * 24 ≤ reach) (hr : n + 1 ≤ reach) (hh : w.heap[g]? = some (.cells cur 46 (0, 0))) (hhv : w.heap[gv]? = some (.cells curv 46 (0, 0)))
    (hsz : cur.size = c * 2) (hszv : 2 ≤ curv.size) (h1 : ∀ v ∈ part cur (i * 2) ((n - i) * 2), v.oneCell' = true) (h2 : ∀ v ∈ part curv 0 2, v.oneCell' = true) :
    ∃ R : Array Value, R.size = grownCap w (n + 1) c 46 * 2 ∧ R.toList.take (i * 2) = part cur 0 (i * 2) ∧
    Calls Tryd.prog 26 #[.slice (some ⟨g, 0, none⟩) n c, .int .i64 i, .slice (some ⟨gv, 0, none⟩) 1 vc] w fun e w' =>
      e = .returned (.slice (some ⟨w.heap.size, 0, none⟩) (n + 1) (grownCap w (n + 1) c 46)) ∧
      w' = (((w.alloc (.cells R 46)).drew.setRow w.heap.size (over R (i * 2) (part curv 0 2))).drew).setRow w.heap.size (over (over R (i * 2) (part curv 0 2)) ((i + 1) * 2) (part cur (i * 2) ((n - i) * 2))) := by
  obtain ⟨i0, z, hi0, hi1, hi2, hz, hzc⟩ := ins_inf
  have l1 : (part cur (i * 2) ((n - i) * 2)).length = (n - i) * 2 := part_len (by omega)
  have l2 : (part curv 0 2).length = 2 := part_len (by omega)
  have l0 : (part cur 0 (i * 2)).length = i * 2 := part_len (by omega)
  have hG := grownCap_ge w (n + 1) c 46
  have hGm : grownCap w (n + 1) c 46 ≤ maxLen := grownCap_le_maxLen w (n + 1) c 46 (by unfold reach at hr; simp only [maxLen]; omega)
  have hkk : (n : Int) + 1 - (i : Int) = ((n + 1 - i : Nat) : Int) := by omega
  have hik : i + (n + 1 - i) = n + 1 := by omega
  have ho : (Builtin.firstCells i0.size i (.slice (some ⟨g, 0, none⟩) i c)).run Tryd.prog w.drew = .ok (part cur 0 (i * 2)).toArray w.drew := by
    rw [hi1]
    exact run_first_at (P := Tryd.prog) w.drew g 0 i c i 2 cur 46 hh (by omega)
  have hrz : ∀ ty, (Builtin.append_ #[30, 3] ty #[.slice (some ⟨g, 0, none⟩) i c, .int .i64 ((n : Int) + 1 - (i : Int))]).run Tryd.prog w =
      .ok (.slice (some ⟨w.heap.size, 0, none⟩) (n + 1) (grownCap w (n + 1) c 46)) (w.drew.alloc (.cells ((part cur 0 (i * 2)).toArray ++ Builtin.zeroCells z.cells (n + 1 - i) ++ Builtin.zeroCells z.cells (grownCap w (n + 1) c 46 - (n + 1))) 46)) := fun ty => by
    have h := Lib.run_append_grow_zeros (P := Tryd.prog) w 30 3 ty 46 i0 z .i64 .i64 ins_und ins_int hi0 hz (some ⟨g, 0, none⟩) i c (part cur 0 (i * 2)) ho (n + 1 - i) (by omega) (by omega) (by omega) (by unfold reach at hr; omega)
      (by rw [hi2]; unfold reach at hbig; omega) (by rw [hi2, hik]; exact growslice_fits hroom (by unfold reach at hbig; exact hbig))
    rw [hik] at h
    rw [hkk]
    exact h
  obtain ⟨G, hGe⟩ : ∃ G, G = grownCap w (n + 1) c 46 := ⟨_, rfl⟩
  rw [← hGe] at hrz hG hGm ⊢
  obtain ⟨R, hR⟩ : ∃ R : Array Value, R = (part cur 0 (i * 2)).toArray ++ Builtin.zeroCells z.cells (n + 1 - i) ++ Builtin.zeroCells z.cells (G - (n + 1)) := ⟨_, rfl⟩
  rw [← hR] at hrz
  have hRs : R.size = G * 2 := by rw [hR]; simp only [Array.size_append, List.size_toArray, size_zeroCells, hzc, l0]; omega
  have hRt : R.toList.take (i * 2) = part cur 0 (i * 2) := by
    rw [hR]
    simp only [Array.toList_append, List.append_assoc]
    rw [List.take_append_of_le_length (by rw [l0]; exact Nat.le_refl _), List.take_of_length_le (by rw [l0]; exact Nat.le_refl _)]
  refine ⟨R, hRs, hRt, ?_⟩
  clear hR hRt hGe
  have hgw : g < w.heap.size := (Array.getElem?_eq_some_iff.1 hh).1
  have hvw : gv < w.heap.size := (Array.getElem?_eq_some_iff.1 hhv).1
  have hN : (w.alloc (.cells R 46)).drew.heap[w.heap.size]? = some (.cells R 46 (0, 0)) := heap_alloc_new w _
  have hNv : (w.alloc (.cells R 46)).drew.heap[gv]? = some (.cells curv 46 (0, 0)) := by
    have h4 : (w.alloc (.cells R 46)).heap[gv]? = w.heap[gv]? := by apply heap_alloc_old; exact hvw
    exact h4.trans hhv
  have hcpA : ∀ ty dc, (Builtin.copy_ #[30, 30] ty #[.slice (some ⟨w.heap.size, i * 2, none⟩) (n + 1 - i) dc, .slice (some ⟨gv, 0, none⟩) 1 vc]).run Tryd.prog (w.alloc (.cells R 46)).drew = .ok (goInt (1 : Nat)) ((w.alloc (.cells R 46)).drew.setRow w.heap.size (over R (i * 2) (part curv 0 2))) := fun ty dc =>
    run_copy_at ty ins_und ins_sz (w.alloc (.cells R 46)).drew w.heap.size (i * 2) _ dc _ _ 1 (by simp only [Nat.min_def]; split <;> omega) (part curv 0 2) (lenOf_slice ..) (by have := run_first_at (P := Tryd.prog) (w.alloc (.cells R 46)).drew gv 0 1 vc 1 2 curv 46 hNv (by omega); rwa [Nat.one_mul] at this) R 46 hN (by rw [l2, hRs]; omega) h2
  have hN2 : ((w.alloc (.cells R 46)).drew.setRow w.heap.size (over R (i * 2) (part curv 0 2))).drew.heap[w.heap.size]? = some (.cells (over R (i * 2) (part curv 0 2)) 46 (0, 0)) := setRow_heap _ _ R _ 46 (0, 0) hN
  have hNg : ((w.alloc (.cells R 46)).drew.setRow w.heap.size (over R (i * 2) (part curv 0 2))).drew.heap[g]? = some (.cells cur 46 (0, 0)) := by
    have h3 := setRow_other (w.alloc (.cells R 46)).drew w.heap.size g (over R (i * 2) (part curv 0 2)) (by omega)
    have h4 : (w.alloc (.cells R 46)).heap[g]? = w.heap[g]? := by apply heap_alloc_old; exact hgw
    exact (h3.trans h4).trans hh
  have hos : (over R (i * 2) (part curv 0 2)).size = G * 2 := by rw [over_size (by rw [l2, hRs]; omega), hRs]
  have hcpB : ∀ ty dc sc, (Builtin.copy_ #[30, 30] ty #[.slice (some ⟨w.heap.size, (i + 1) * 2, none⟩) (n - i) dc, .slice (some ⟨g, i * 2, none⟩) (n - i) sc]).run Tryd.prog ((w.alloc (.cells R 46)).drew.setRow w.heap.size (over R (i * 2) (part curv 0 2))).drew = .ok (goInt (n - i : Nat)) ((((w.alloc (.cells R 46)).drew.setRow w.heap.size (over R (i * 2) (part curv 0 2))).drew).setRow w.heap.size (over (over R (i * 2) (part curv 0 2)) ((i + 1) * 2) (part cur (i * 2) ((n - i) * 2)))) := fun ty dc sc =>
    run_copy_at ty ins_und ins_sz _ w.heap.size ((i + 1) * 2) _ dc _ _ (n - i) (by simp only [Nat.min_def]; split <;> omega) (part cur (i * 2) ((n - i) * 2)) (lenOf_slice ..) (run_first_at _ g _ _ sc (n - i) 2 cur 46 hNg (by omega)) _ 46 hN2 (by rw [l1, hos]; omega) h1
  have hz1 : ¬ ((1 : Int) = 0) := by omega
  have hz2 : ¬ ((i : Int) = (n : Int)) := by omega
  have hz3 : (c : Int) < (n : Int) + 1 := by omega
  have hw1 : IntKind.i64.wrap ((i : Int) + 1) = (i : Int) + 1 := by unfold reach at hr; rw [IntKind.wrap_i64]; omega
  have hw2 : IntKind.i64.wrap ((n : Int) + 1) = (n : Int) + 1 := by unfold reach at hr; rw [IntKind.wrap_i64]; omega
  have hw3 : IntKind.i64.wrap ((n : Int) + 1 - (i : Int)) = (n : Int) + 1 - (i : Int) := by unfold reach at hr; rw [IntKind.wrap_i64]; omega
  have hb1 : (0 : Int) ≤ (i : Int) + 1 := by omega
  have hb2 : ¬ c = i + 1 ∨ c = i + 1 := by omega
  have hb3 : (i : Int) ≤ (n : Int) + 1 := by omega
  have hb4 : ¬ c = i := by omega
  have hb5 : ¬ G = i := by omega
  have hb6 : ¬ G = i + 1 := by omega
  have hb7 : (i : Int) ≤ (n : Int) := by omega
  have hin : i ≤ n := by omega
  have htn : ((i : Int) + 1).toNat = i + 1 := by omega
  clear hkk hik ho hb2
  go_enter Tryd.func26, Tryd.ntmps26
  go_wp2_with (first
    | (at_builtin; refine wl_app _ rfl _ _ 30 3 rfl _ _ rfl rfl (hrz _) ?_)
    | (at_builtin; refine wl_cpy _ rfl _ _ 30 30 rfl _ _ rfl rfl (hcpA _ _) ?_))
  go_region_law (refine st_cpy rfl _ _ 30 30 rfl _ _ (by simp [Act.eval, Act.put]) (by simp [Act.eval, Act.put]) (hcpB _ _ _) ?_)
  go_wp2
  go_ret
  exact ⟨rfl, rfl⟩
end Go.Proofs.YtondenmkhfignaaDoor.Code
