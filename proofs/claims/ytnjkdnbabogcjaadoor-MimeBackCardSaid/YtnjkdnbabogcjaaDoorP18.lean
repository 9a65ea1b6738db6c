/- A walk, printed by a program of my own (wip/gen/walk.py) from a script of mine. -/
import Derived.Test.YtnjkdnbabogcjaaDoorProg
import Derived.Test.YtnjkdnbabogcjaaDoorL0
import Derived.Test.YtnjkdnbabogcjaaDoorQ9
import Derived.Test.YtnjkdnbabogcjaaDoorP17
set_option maxHeartbeats 4000000
set_option linter.unusedVariables false
set_option linter.unusedSimpArgs false
set_option maxRecDepth 100000
namespace Go.Proofs.YtnjkdnbabogcjaaDoor
open Go Go.RowKit Go.Kw

theorem awakeM (w : World) (hg : Gl w) : Pu Tryd.prog 13 #[] w (.bool true) := by
  have hgs := hg.size
  refine enter (n := 22) (args := []) Tryd.func13 rfl rfl (Nat.le_of_ble_eq_true (by kernel_rfl)) ?_
  refine at_seq (at_region ?_)
  refine ops_run1 (l' := [(0, .bool false)]) (by kernel_rfl) ?_
  refine ops_nil (nx_seq (at_seq (at_region ?_)))
  refine ops_lit (e := 9) (sz := 1) [S [97, 64, 98]] (by kernel_rfl) (by kernel_rfl) (by kernel_rfl) rfl (by decide) (fun v1 w1 h1 c1 z1 => ?_)
  have z2 := c1.size
  obtain ⟨A1, n1, c2, rfl⟩ := h1.1.sl.shape
  replace h1 : OwnS w1 (w.heap.size) (.slice A1 n1 c2) [[97, 64, 98]] := h1.1
  refine ops_run1 (l' := [(0, .bool false), (5, .agg #[S [], (.slice A1 n1 c2), .int .i64 0])]) (by kernel_rfl) ?_
  have h5 := hg.keep0 c1 (by omega)
  refine ops_callr (by kernel_rfl) (by kernel_rfl) (by kernel_rfl) (report_ok [] [[97, 64, 98]] (0) [] h1.sl (Sl.nil w1 0 0 1 (by omega) : Bs w1 0 0 (.slice none 0 0) []) (by simp) (by intro s hs; simp at hs; subst hs; simp) (by omega) (by omega) h5) ?_
  rintro _ w2 ⟨c3, (⟨h2, k1, v2, h3, rfl, h4⟩ | ⟨h2, rfl⟩)⟩
  have z3 := c3.size
  have hrl := awakeM_len k1
  refine ops_run5 (l' := [(0, .bool false), (1, v2), (2, .int .i64 0)]) (by kernel_rfl) ?_
  refine ops_nil (nx_seq (at_seq (at_region ?_)))
  refine ops_litK (e := 5) [.int .u8 45, .int .u8 45, .int .u8 106, .int .u8 111, .int .u8 117, .int .u8 114, .int .u8 110, .int .u8 97, .int .u8 108, .int .u8 45, .int .u8 48] (by kernel_rfl) (by kernel_rfl) (by kernel_rfl) rfl (by decide) (by kernel_rfl) (by kernel_rfl) (by kernel_rfl) (fun v3 w3 h6 c4 z4 => ?_)
  have z5 := c4.size
  replace h6 : Bs w3 (w2.heap.size) (w3.heap.size) v3 [45, 45, 106, 111, 117, 114, 110, 97, 108, 45, 48] := h6
  have h7 := h5.keep0 c3 (by omega)
  have h8 := h7.keep0 c4 (by omega)
  refine ops_callr (by kernel_rfl) (by kernel_rfl) (by kernel_rfl) (boundary_ok h6 (by first | omega | (simp only [List.length_append, List.length_cons, List.length_nil, List.length_take, List.length_drop, List.length_map]; omega)) h8) ?_
  rintro _ w4 ⟨k2, rfl, hk1, hk2, c5⟩
  have jl1 := jn_len k2 (by omega)
  have z6 := c5.size
  refine ops_eqS (a := jn k2) (b := [106, 111, 117, 114, 110, 97, 108, 45, 49]) (by kernel_rfl) (by kernel_rfl) (by kernel_rfl) (by kernel_rfl) ?_
  refine ops_run1 (l' := [(0, .bool false), (1, v2), (2, .int .i64 0), (13, .bool (decide ((jn k2 : Bytes) = [106, 111, 117, 114, 110, 97, 108, 45, 49])))]) (by kernel_rfl) ?_
  by_cases q1 : (jn k2 : Bytes) = [106, 111, 117, 114, 110, 97, 108, 45, 49]
  rw [show (decide ((jn k2 : Bytes) = [106, 111, 117, 114, 110, 97, 108, 45, 49])) = true from decide_eq_true q1]
  refine ops_run5 (l' := [(0, .bool false), (17, .bool true), (18, v2)]) (by kernel_rfl) ?_
  have h9 := h4.keep0 c4 (by omega)
  have h10 := h9.keep0 c5 (by omega)
  refine ops_len (e := 5) (by kernel_rfl) (by kernel_rfl) (by kernel_rfl) (by kernel_rfl) h10 ?_
  refine ops_run3 (l' := [(0, .bool (decide ((((((repB [] [[97, 64, 98]] (0) [] (jn k1)).length) : Nat) : Int) : Int) > (100 : Int))))]) (by kernel_rfl) ?_
  refine ops_nil (nx_seq ?_)
  refine at_ret (rs := [.tmp 0]) (vs := [.bool (decide ((((((repB [] [[97, 64, 98]] (0) [] (jn k1)).length) : Nat) : Int) : Int) > (100 : Int)))]) rfl (by kernel_rfl) ?_
  exact ⟨_, rfl, (congrArg Value.bool (decide_eq_true (by omega))), (((((Chg.refl [] w).step0 c1 (by omega)).step0 c3 (by omega)).step0 c4 (by omega)).step0 c5 (by omega))⟩
  rw [show (decide ((jn k2 : Bytes) = [106, 111, 117, 114, 110, 97, 108, 45, 49])) = false from decide_eq_false q1]
  refine ops_run9 (l' := [(0, .bool false)]) (by kernel_rfl) ?_
  refine ops_nil (nx_seq ?_)
  refine at_ret (rs := [.tmp 0]) (vs := [.bool false]) rfl (by kernel_rfl) ?_
  exact absurd (awakeM_bnd hk1) q1
  have z7 := c3.size
  exact absurd awakeM_ok h2
theorem fewM (fr : Bytes) (to : List Bytes) (at_ : Int) (b : Bytes) {w : World} {lo hi lo2 hi2 : Nat} {tv bv : Value} (ht : Ss w lo hi tv to) (hb : Bs w lo2 hi2 bv b) : Pu Tryd.prog 17 #[.agg #[S fr, tv, .int .i64 at_], bv] w (.bool (decide (fewP fr to b))) := by
  have hhi := ht.hi_le
  have hhb := hb.hi_le
  refine enter (n := 26) (args := [.agg #[S fr, tv, .int .i64 at_], bv]) Tryd.func17 rfl rfl (Nat.le_of_ble_eq_true (by kernel_rfl)) ?_
  refine at_seq (at_region ?_)
  refine ops_box (cs := [S fr, tv, .int .i64 at_]) (by kernel_rfl) (by kernel_rfl) (by kernel_rfl) (fun b1 w1 e1 h1 c1 z1 => ?_)
  have z2 := c1.size
  refine ops_run1 (l' := [(1, bv), (2, .pointer (some ⟨b1, 0, none⟩)), (4, .bool false)]) (by kernel_rfl) ?_
  refine ops_nil (nx_seq (at_seq (at_region ?_)))
  refine ops_run1 (l' := [(1, bv), (2, .pointer (some ⟨b1, 0, none⟩)), (4, .bool false), (5, .pointer (some ⟨b1, 0, none⟩))]) (by kernel_rfl) ?_
  refine ops_loadB (i := 0) (v := S fr) (by kernel_rfl) (by kernel_rfl) (by kernel_rfl) (by kernel_rfl) h1 (by kernel_rfl) ?_
  refine ops_run3 (l' := [(1, bv), (2, .pointer (some ⟨b1, 0, none⟩)), (4, .bool false), (9, .bool (decide (((fr.length : Int) : Int) ≤ (300 : Int))))]) (by kernel_rfl) ?_
  by_cases q1 : ((fr.length : Int) : Int) ≤ (300 : Int)
  rw [show (decide (((fr.length : Int) : Int) ≤ (300 : Int))) = true from decide_eq_true q1]
  refine ops_run1 (l' := [(1, bv), (2, .pointer (some ⟨b1, 0, none⟩)), (4, .bool false), (9, .bool true), (10, .pointer (some ⟨b1, 1, none⟩))]) (by kernel_rfl) ?_
  refine ops_loadB (i := 1) (v := tv) (by kernel_rfl) (by kernel_rfl) (by kernel_rfl) (by kernel_rfl) h1 (by kernel_rfl) ?_
  have h2 := ht.keep0 c1 (by omega)
  refine ops_len (e := 9) (by kernel_rfl) (by kernel_rfl) (by kernel_rfl) (by kernel_rfl) h2 ?_
  refine ops_run2 (l' := [(1, bv), (2, .pointer (some ⟨b1, 0, none⟩)), (4, .bool false), (9, .bool true), (14, .bool (decide (((to.length : Int) : Int) ≤ (10 : Int))))]) (by kernel_rfl) ?_
  by_cases q2 : ((to.length : Int) : Int) ≤ (10 : Int)
  rw [show (decide (((to.length : Int) : Int) ≤ (10 : Int))) = true from decide_eq_true q2]
  refine ops_run8 (l' := [(4, .bool false), (21, .bool true), (22, bv)]) (by kernel_rfl) ?_
  have h3 := hb.keep0 c1 (by omega)
  refine ops_len (e := 5) (by kernel_rfl) (by kernel_rfl) (by kernel_rfl) (by kernel_rfl) h3 ?_
  refine ops_run3 (l' := [(4, .bool (decide (((b.length : Int) : Int) ≤ (1000 : Int))))]) (by kernel_rfl) ?_
  refine ops_nil (nx_seq ?_)
  refine at_ret (rs := [.tmp 4]) (vs := [.bool (decide (((b.length : Int) : Int) ≤ (1000 : Int)))]) rfl (by kernel_rfl) ?_
  exact ⟨_, rfl, (congrArg Value.bool (decide_eq_decide.2 (show (((b.length : Int) : Int) ≤ (1000 : Int)) ↔ (fewP fr to b) by unfold fewP; omega))), ((Chg.refl [] w).step0 c1 (by omega))⟩
  rw [show (decide (((to.length : Int) : Int) ≤ (10 : Int))) = false from decide_eq_false q2]
  refine ops_run1 (l' := [(1, bv), (4, .bool false), (9, .bool true), (14, .bool false), (15, .pointer (some ⟨b1, 1, none⟩))]) (by kernel_rfl) ?_
  refine ops_loadB (i := 1) (v := tv) (by kernel_rfl) (by kernel_rfl) (by kernel_rfl) (by kernel_rfl) h1 (by kernel_rfl) ?_
  refine ops_len (e := 9) (by kernel_rfl) (by kernel_rfl) (by kernel_rfl) (by kernel_rfl) h2 ?_
  refine ops_run4 (l' := [(1, bv), (4, .bool false), (21, .bool (decide (((to.length : Int) : Int) = (101 : Int))))]) (by kernel_rfl) ?_
  by_cases q3 : ((to.length : Int) : Int) = (101 : Int)
  rw [show (decide (((to.length : Int) : Int) = (101 : Int))) = true from decide_eq_true q3]
  refine ops_run1 (l' := [(4, .bool false), (21, .bool true), (22, bv)]) (by kernel_rfl) ?_
  have h4 := hb.keep0 c1 (by omega)
  refine ops_len (e := 5) (by kernel_rfl) (by kernel_rfl) (by kernel_rfl) (by kernel_rfl) h4 ?_
  refine ops_run3 (l' := [(4, .bool (decide (((b.length : Int) : Int) ≤ (1000 : Int))))]) (by kernel_rfl) ?_
  refine ops_nil (nx_seq ?_)
  refine at_ret (rs := [.tmp 4]) (vs := [.bool (decide (((b.length : Int) : Int) ≤ (1000 : Int)))]) rfl (by kernel_rfl) ?_
  exact ⟨_, rfl, (congrArg Value.bool (decide_eq_decide.2 (show (((b.length : Int) : Int) ≤ (1000 : Int)) ↔ (fewP fr to b) by unfold fewP; omega))), ((Chg.refl [] w).step0 c1 (by omega))⟩
  rw [show (decide (((to.length : Int) : Int) = (101 : Int))) = false from decide_eq_false q3]
  refine ops_run5 (l' := [(4, .bool false)]) (by kernel_rfl) ?_
  refine ops_nil (nx_seq ?_)
  refine at_ret (rs := [.tmp 4]) (vs := [.bool false]) rfl (by kernel_rfl) ?_
  exact ⟨_, rfl, (congrArg Value.bool (decide_eq_false (p := fewP fr to b) (by unfold fewP; omega)).symm), ((Chg.refl [] w).step0 c1 (by omega))⟩
  rw [show (decide (((fr.length : Int) : Int) ≤ (300 : Int))) = false from decide_eq_false q1]
  refine ops_run17 (l' := [(4, .bool false)]) (by kernel_rfl) ?_
  refine ops_nil (nx_seq ?_)
  refine at_ret (rs := [.tmp 4]) (vs := [.bool false]) rfl (by kernel_rfl) ?_
  exact ⟨_, rfl, (congrArg Value.bool (decide_eq_false (p := fewP fr to b) (by unfold fewP; omega)).symm), ((Chg.refl [] w).step0 c1 (by omega))⟩
theorem mimeReads_ok {w : World} {lo hi : Nat} {rv : Value} {r : Bytes} (hr : Bs w lo hi rv r) (hg : Gl w) : Pu Tryd.prog 4 #[rv] w (.bool true) := by
  have hhi := hr.hi_le
  have hgs := hg.size
  refine enter (n := 41) (args := [rv]) Tryd.func4 rfl rfl (Nat.le_of_ble_eq_true (by kernel_rfl)) ?_
  refine at_seq (at_region ?_)
  refine ops_run1 (l' := [(0, rv), (2, .bool false)]) (by kernel_rfl) ?_
  refine ops_nil (nx_seq (at_seq (at_seq (at_region ?_))))
  refine ops_callr (by kernel_rfl) (by kernel_rfl) (by kernel_rfl) (awakeM w hg) ?_
  rintro _ w1 ⟨rfl, c1⟩
  have z1 := c1.size
  refine ops_run1 (l' := [(0, rv), (2, .bool false), (10, .bool false)]) (by kernel_rfl) ?_
  refine ops_nil (nx_seq ?_)
  refine at_iff (by kernel_rfl) ?_
  refine at_skip (nx_seq (at_seq (at_seq (at_region ?_))))
  refine ops_run1 (l' := [(0, rv), (2, .bool false), (11, rv)]) (by kernel_rfl) ?_
  have h1 := hr.keep0 c1 (by omega)
  refine ops_len (e := 5) (by kernel_rfl) (by kernel_rfl) (by kernel_rfl) (by kernel_rfl) h1 ?_
  refine ops_run1 (l' := [(0, rv), (2, .bool false), (13, .bool (decide (((r.length : Int) : Int) > (3000 : Int))))]) (by kernel_rfl) ?_
  refine ops_nil (nx_seq ?_)
  refine at_ifp (((r.length : Int) : Int) > (3000 : Int)) (by kernel_rfl) (fun q1 => ?_) (fun q1 => ?_)
  refine at_seq (at_region ?_)
  refine ops_run1 (l' := [(0, rv), (2, .bool true)]) (by kernel_rfl) ?_
  refine ops_nil (nx_seq ?_)
  refine at_ret (rs := [.tmp 2]) (vs := [.bool true]) rfl (by kernel_rfl) ?_
  exact ⟨_, rfl, rfl, ((Chg.refl [] w).step0 c1 (by omega))⟩
  refine at_skip (nx_seq (at_seq (at_region ?_)))
  refine ops_run1 (l' := [(0, rv), (2, .bool false), (15, rv)]) (by kernel_rfl) ?_
  have h5 := hg.keep0 c1 (by omega)
  refine ops_callr (by kernel_rfl) (by kernel_rfl) (by kernel_rfl) (read_ok h1 (by first | omega | (simp only [List.length_append, List.length_cons, List.length_nil, List.length_take, List.length_drop, List.length_map]; omega)) h5) ?_
  rintro _ w2 ⟨c2, (⟨fr1, to1, at1, b1, k1, tv1, bv1, h2, rfl, h3, h4⟩ | ⟨h2, rfl⟩)⟩
  have z2 := c2.size
  refine ops_run4 (l' := [(0, rv), (2, .bool false), (17, .agg #[S fr1, tv1, .int .i64 at1]), (18, bv1), (19, .int .i64 0)]) (by kernel_rfl) ?_
  refine ops_alloc (z := .agg #[S [], .slice none 0 0, .int .i64 0]) (cs := [S [], .slice none 0 0, .int .i64 0]) (by kernel_rfl) (by kernel_rfl) (by kernel_rfl) (by kernel_rfl) (fun b2 w3 e1 h6 c3 z3 => ?_)
  have z4 := c3.size
  have h8 := h3.keep0 c3 (by omega)
  refine ops_storeS (i := 0) (vs := [S fr1, tv1, .int .i64 at1]) [S fr1, tv1, .int .i64 at1] (by kernel_rfl) (by kernel_rfl) (by kernel_rfl) (by kernel_rfl) (by simp only [List.all_cons, List.all_nil, h8.one, Bool.and_true, Bool.true_and] <;> rfl) (by kernel_rfl) h6 (by kernel_rfl) (by kernel_rfl) (fun w4 h7 c4 z5 => ?_)
  have z6 := c4.size
  refine ops_run2 (l' := [(0, rv), (2, .bool false), (3, .pointer (some ⟨b2, 0, none⟩)), (4, bv1), (5, .int .i64 0)]) (by kernel_rfl) ?_
  refine ops_nil (nx_seq (at_seq (at_region ?_)))
  refine ops_run1 (l' := [(2, .bool false), (3, .pointer (some ⟨b2, 0, none⟩)), (4, bv1), (5, .int .i64 0), (21, rv)]) (by kernel_rfl) ?_
  have h9 := h1.keep0 c2 (by omega)
  have h10 := h9.keep0 c3 (by omega)
  have h11 := h10.keep1 c4 (by omega) (by omega)
  have h15 := h5.keep0 c2 (by omega)
  have h16 := h15.keep0 c3 (by omega)
  have h17 := h16.keep c4 (by omega) (by intro y hy; simp only [List.mem_cons, List.not_mem_nil, or_false]; omega)
  refine ops_callr (by kernel_rfl) (by kernel_rfl) (by kernel_rfl) (rRead_ok h11 (by first | omega | (simp only [List.length_append, List.length_cons, List.length_nil, List.length_take, List.length_drop, List.length_map]; omega)) h17) ?_
  rintro _ w5 ⟨c5, (⟨fr2, to2, at2, b3, k2, tv2, bv2, h12, rfl, h13, h14⟩ | ⟨h12, rfl⟩)⟩
  have z7 := c5.size
  obtain ⟨rfl, rfl, rfl, rfl⟩ := wit_unique h2 h12
  refine ops_run4 (l' := [(2, .bool false), (3, .pointer (some ⟨b2, 0, none⟩)), (4, bv1), (5, .int .i64 0), (23, .agg #[S fr1, tv2, .int .i64 at1]), (24, bv2), (25, .int .i64 0)]) (by kernel_rfl) ?_
  refine ops_alloc (z := .agg #[S [], .slice none 0 0, .int .i64 0]) (cs := [S [], .slice none 0 0, .int .i64 0]) (by kernel_rfl) (by kernel_rfl) (by kernel_rfl) (by kernel_rfl) (fun b4 w6 e2 h18 c6 z8 => ?_)
  have z9 := c6.size
  have h20 := h13.keep0 c6 (by omega)
  refine ops_storeS (i := 0) (vs := [S fr1, tv2, .int .i64 at1]) [S fr1, tv2, .int .i64 at1] (by kernel_rfl) (by kernel_rfl) (by kernel_rfl) (by kernel_rfl) (by simp only [List.all_cons, List.all_nil, h20.one, Bool.and_true, Bool.true_and] <;> rfl) (by kernel_rfl) h18 (by kernel_rfl) (by kernel_rfl) (fun w7 h19 c7 z10 => ?_)
  have z11 := c7.size
  refine ops_run2 (l' := [(2, .bool false), (3, .pointer (some ⟨b2, 0, none⟩)), (4, bv1), (5, .int .i64 0), (6, .pointer (some ⟨b4, 0, none⟩)), (7, bv2), (8, .int .i64 0)]) (by kernel_rfl) ?_
  refine ops_nil (nx_seq (at_seq (at_region ?_)))
  refine ops_run4 (l' := [(2, .bool false), (3, .pointer (some ⟨b2, 0, none⟩)), (4, bv1), (6, .pointer (some ⟨b4, 0, none⟩)), (7, bv2), (29, .bool true)]) (by kernel_rfl) ?_
  have h21 := h7.keep0 c5 (by omega)
  have h22 := h21.keep0 c6 (by omega)
  have h23 := h22.keep1 c7 (by omega) (by omega)
  refine ops_loadS (i := 0) (vs := [S fr1, tv1, .int .i64 at1]) 3 (by kernel_rfl) (by kernel_rfl) (by kernel_rfl) (by kernel_rfl) (by kernel_rfl) h23 (by kernel_rfl) (by kernel_rfl) ?_
  refine ops_loadS (i := 0) (vs := [S fr1, tv2, .int .i64 at1]) 3 (by kernel_rfl) (by kernel_rfl) (by kernel_rfl) (by kernel_rfl) (by kernel_rfl) h19 (by kernel_rfl) (by kernel_rfl) ?_
  have h24 := h8.keep1 c4 (by omega) (by omega)
  have h25 := h24.keep0 c5 (by omega)
  have h26 := h25.keep0 c6 (by omega)
  have h27 := h26.keep1 c7 (by omega) (by omega)
  have h28 := h20.keep1 c7 (by omega) (by omega)
  refine ops_callr (by kernel_rfl) (by kernel_rfl) (by kernel_rfl) (same11m_ok fr1 to1 (at1) h27 h28) ?_
  rintro _ w8 ⟨rfl, c8⟩
  have z12 := c8.size
  refine ops_run3 (l' := [(2, .bool false), (7, bv2), (34, .bool true), (35, bv1)]) (by kernel_rfl) ?_
  have h29 := h4.keep0 c3 (by omega)
  have h30 := h29.keep1 c4 (by omega) (by omega)
  have h31 := h30.keep0 c5 (by omega)
  have h32 := h31.keep0 c6 (by omega)
  have h33 := h32.keep1 c7 (by omega) (by omega)
  have h34 := h33.keep0 c8 (by omega)
  refine ops_toS (b := b1) (by kernel_rfl) (by kernel_rfl) (by kernel_rfl) (by kernel_rfl) (by kernel_rfl) h34 ?_
  refine ops_run1 (l' := [(2, .bool false), (34, .bool true), (36, S b1), (37, bv2)]) (by kernel_rfl) ?_
  have h35 := h14.keep0 c6 (by omega)
  have h36 := h35.keep1 c7 (by omega) (by omega)
  have h37 := h36.keep0 c8 (by omega)
  refine ops_toS (b := b1) (by kernel_rfl) (by kernel_rfl) (by kernel_rfl) (by kernel_rfl) (by kernel_rfl) h37 ?_
  refine ops_eqS (a := b1) (b := b1) (by kernel_rfl) (by kernel_rfl) (by kernel_rfl) (by kernel_rfl) ?_
  refine ops_run2 (l' := [(2, .bool (decide ((b1 : Bytes) = b1)))]) (by kernel_rfl) ?_
  refine ops_nil (nx_seq ?_)
  refine at_ret (rs := [.tmp 2]) (vs := [.bool (decide ((b1 : Bytes) = b1))]) rfl (by kernel_rfl) ?_
  exact ⟨_, rfl, (congrArg Value.bool (decide_eq_true rfl)), (((((((((Chg.refl [] w).step0 c1 (by omega)).step0 c2 (by omega)).step0 c3 (by omega)).step c4 (by omega) (by intro y hy; simp only [List.mem_cons, List.not_mem_nil, or_false, false_or] at hy ⊢; try omega)).step0 c5 (by omega)).step0 c6 (by omega)).step c7 (by omega) (by intro y hy; simp only [List.mem_cons, List.not_mem_nil, or_false, false_or] at hy ⊢; try omega)).step0 c8 (by omega))⟩
  have z13 := c5.size
  exact (h12 _ _ _ _ _ h2).elim
  have z14 := c2.size
  refine ops_run4 (l' := [(0, rv), (2, .bool false), (17, .agg #[S [], .slice none 0 0, .int .i64 0]), (18, .slice none 0 0), (19, .int .i64 110)]) (by kernel_rfl) ?_
  refine ops_alloc (z := .agg #[S [], .slice none 0 0, .int .i64 0]) (cs := [S [], .slice none 0 0, .int .i64 0]) (by kernel_rfl) (by kernel_rfl) (by kernel_rfl) (by kernel_rfl) (fun b5 w9 e3 h38 c9 z15 => ?_)
  have z16 := c9.size
  refine ops_storeS (i := 0) (vs := [S [], .slice none 0 0, .int .i64 0]) [S [], .slice none 0 0, .int .i64 0] (by kernel_rfl) (by kernel_rfl) (by kernel_rfl) (by kernel_rfl) (by kernel_rfl) (by kernel_rfl) h38 (by kernel_rfl) (by kernel_rfl) (fun w10 h39 c10 z17 => ?_)
  have z18 := c10.size
  refine ops_run2 (l' := [(0, rv), (2, .bool false), (3, .pointer (some ⟨b5, 0, none⟩)), (4, .slice none 0 0), (5, .int .i64 110)]) (by kernel_rfl) ?_
  refine ops_nil (nx_seq (at_seq (at_region ?_)))
  refine ops_run1 (l' := [(2, .bool false), (3, .pointer (some ⟨b5, 0, none⟩)), (4, .slice none 0 0), (5, .int .i64 110), (21, rv)]) (by kernel_rfl) ?_
  have h40 := h1.keep0 c2 (by omega)
  have h41 := h40.keep0 c9 (by omega)
  have h42 := h41.keep1 c10 (by omega) (by omega)
  have h46 := h5.keep0 c2 (by omega)
  have h47 := h46.keep0 c9 (by omega)
  have h48 := h47.keep c10 (by omega) (by intro y hy; simp only [List.mem_cons, List.not_mem_nil, or_false]; omega)
  refine ops_callr (by kernel_rfl) (by kernel_rfl) (by kernel_rfl) (rRead_ok h42 (by first | omega | (simp only [List.length_append, List.length_cons, List.length_nil, List.length_take, List.length_drop, List.length_map]; omega)) h48) ?_
  rintro _ w11 ⟨c11, (⟨fr3, to3, at3, b6, k3, tv3, bv3, h43, rfl, h44, h45⟩ | ⟨h43, rfl⟩)⟩
  have z19 := c11.size
  exact (h2 _ _ _ _ _ h43).elim
  have z20 := c11.size
  refine ops_run4 (l' := [(2, .bool false), (3, .pointer (some ⟨b5, 0, none⟩)), (4, .slice none 0 0), (5, .int .i64 110), (23, .agg #[S [], .slice none 0 0, .int .i64 0]), (24, .slice none 0 0), (25, .int .i64 110)]) (by kernel_rfl) ?_
  refine ops_alloc (z := .agg #[S [], .slice none 0 0, .int .i64 0]) (cs := [S [], .slice none 0 0, .int .i64 0]) (by kernel_rfl) (by kernel_rfl) (by kernel_rfl) (by kernel_rfl) (fun b7 w12 e4 h49 c12 z21 => ?_)
  have z22 := c12.size
  refine ops_storeS (i := 0) (vs := [S [], .slice none 0 0, .int .i64 0]) [S [], .slice none 0 0, .int .i64 0] (by kernel_rfl) (by kernel_rfl) (by kernel_rfl) (by kernel_rfl) (by kernel_rfl) (by kernel_rfl) h49 (by kernel_rfl) (by kernel_rfl) (fun w13 h50 c13 z23 => ?_)
  have z24 := c13.size
  refine ops_run2 (l' := [(2, .bool false), (3, .pointer (some ⟨b5, 0, none⟩)), (4, .slice none 0 0), (5, .int .i64 110), (6, .pointer (some ⟨b7, 0, none⟩)), (7, .slice none 0 0), (8, .int .i64 110)]) (by kernel_rfl) ?_
  refine ops_nil (nx_seq (at_seq (at_region ?_)))
  refine ops_run4 (l' := [(2, .bool false), (3, .pointer (some ⟨b5, 0, none⟩)), (4, .slice none 0 0), (6, .pointer (some ⟨b7, 0, none⟩)), (7, .slice none 0 0), (29, .bool true)]) (by kernel_rfl) ?_
  have h51 := h39.keep0 c11 (by omega)
  have h52 := h51.keep0 c12 (by omega)
  have h53 := h52.keep1 c13 (by omega) (by omega)
  refine ops_loadS (i := 0) (vs := [S [], .slice none 0 0, .int .i64 0]) 3 (by kernel_rfl) (by kernel_rfl) (by kernel_rfl) (by kernel_rfl) (by kernel_rfl) h53 (by kernel_rfl) (by kernel_rfl) ?_
  refine ops_loadS (i := 0) (vs := [S [], .slice none 0 0, .int .i64 0]) 3 (by kernel_rfl) (by kernel_rfl) (by kernel_rfl) (by kernel_rfl) (by kernel_rfl) h50 (by kernel_rfl) (by kernel_rfl) ?_
  refine ops_callr (by kernel_rfl) (by kernel_rfl) (by kernel_rfl) (same11m_ok [] [] (0) (Sl.nil w13 0 0 1 (by omega) : Ss w13 0 0 (.slice none 0 0) []) (Sl.nil w13 0 0 1 (by omega) : Ss w13 0 0 (.slice none 0 0) [])) ?_
  rintro _ w14 ⟨rfl, c14⟩
  have z25 := c14.size
  refine ops_run3 (l' := [(2, .bool false), (7, .slice none 0 0), (34, .bool true), (35, .slice none 0 0)]) (by kernel_rfl) ?_
  refine ops_toS (b := []) (by kernel_rfl) (by kernel_rfl) (by kernel_rfl) (by kernel_rfl) (by kernel_rfl) (Sl.nil w14 0 0 1 (by omega) : Bs w14 0 0 (.slice none 0 0) []) ?_
  refine ops_run1 (l' := [(2, .bool false), (34, .bool true), (36, S []), (37, .slice none 0 0)]) (by kernel_rfl) ?_
  refine ops_toS (b := []) (by kernel_rfl) (by kernel_rfl) (by kernel_rfl) (by kernel_rfl) (by kernel_rfl) (Sl.nil w14 0 0 1 (by omega) : Bs w14 0 0 (.slice none 0 0) []) ?_
  refine ops_eqS (a := []) (b := []) (by kernel_rfl) (by kernel_rfl) (by kernel_rfl) (by kernel_rfl) ?_
  refine ops_run2 (l' := [(2, .bool (decide (([] : Bytes) = [])))]) (by kernel_rfl) ?_
  refine ops_nil (nx_seq ?_)
  refine at_ret (rs := [.tmp 2]) (vs := [.bool (decide (([] : Bytes) = []))]) rfl (by kernel_rfl) ?_
  exact ⟨_, rfl, (congrArg Value.bool (decide_eq_true rfl)), (((((((((Chg.refl [] w).step0 c1 (by omega)).step0 c2 (by omega)).step0 c9 (by omega)).step c10 (by omega) (by intro y hy; simp only [List.mem_cons, List.not_mem_nil, or_false, false_or] at hy ⊢; try omega)).step0 c11 (by omega)).step0 c12 (by omega)).step c13 (by omega) (by intro y hy; simp only [List.mem_cons, List.not_mem_nil, or_false, false_or] at hy ⊢; try omega)).step0 c14 (by omega))⟩
theorem mimeBack_ok (fr : Bytes) (to : List Bytes) (at_ : Int) (b : Bytes) {w : World} {lo hi : Nat} {tv : Value} (ht : Ss w lo hi tv to) {lo2 hi2 : Nat} {bv : Value} (hb : Bs w lo2 hi2 bv b) (hfr : fr.length < 4611686018427387904) (hto : ∀ s, s ∈ to → s.length < 4611686018427387904) (ha0 : -9223372036854775808 ≤ at_) (ha1 : at_ ≤ 9223372036854775807) (hg : Gl w) : Pu Tryd.prog 5 #[.agg #[S fr, tv, .int .i64 at_], bv] w (.bool true) := by
  have hhi := ht.hi_le
  have hhb := hb.hi_le
  have hgs := hg.size
  refine enter (n := 47) (args := [.agg #[S fr, tv, .int .i64 at_], bv]) Tryd.func5 rfl rfl (Nat.le_of_ble_eq_true (by kernel_rfl)) ?_
  refine at_seq (at_region ?_)
  refine ops_box (cs := [S fr, tv, .int .i64 at_]) (by kernel_rfl) (by kernel_rfl) (by kernel_rfl) (fun b1 w1 e1 h1 c1 z1 => ?_)
  have z2 := c1.size
  refine ops_run1 (l' := [(1, bv), (2, .pointer (some ⟨b1, 0, none⟩)), (4, .bool false)]) (by kernel_rfl) ?_
  refine ops_nil (nx_seq (at_seq (at_seq (at_region ?_))))
  have h2 := hg.keep0 c1 (by omega)
  refine ops_callr (by kernel_rfl) (by kernel_rfl) (by kernel_rfl) (awakeM w1 h2) ?_
  rintro _ w2 ⟨rfl, c2⟩
  have z3 := c2.size
  refine ops_run1 (l' := [(1, bv), (2, .pointer (some ⟨b1, 0, none⟩)), (4, .bool false), (11, .bool false)]) (by kernel_rfl) ?_
  refine ops_nil (nx_seq ?_)
  refine at_iff (by kernel_rfl) ?_
  refine at_skip (nx_seq (at_seq (at_seq (at_region ?_))))
  have h3 := h1.keep0 c2 (by omega)
  refine ops_loadS (i := 0) (vs := [S fr, tv, .int .i64 at_]) 3 (by kernel_rfl) (by kernel_rfl) (by kernel_rfl) (by kernel_rfl) (by kernel_rfl) h3 (by kernel_rfl) (by kernel_rfl) ?_
  refine ops_run1 (l' := [(1, bv), (2, .pointer (some ⟨b1, 0, none⟩)), (4, .bool false), (12, .agg #[S fr, tv, .int .i64 at_]), (13, bv)]) (by kernel_rfl) ?_
  have h4 := ht.keep0 c1 (by omega)
  have h5 := h4.keep0 c2 (by omega)
  have h6 := hb.keep0 c1 (by omega)
  have h7 := h6.keep0 c2 (by omega)
  refine ops_callr (by kernel_rfl) (by kernel_rfl) (by kernel_rfl) (fewM fr to (at_) b h5 h7) ?_
  rintro _ w3 ⟨rfl, c3⟩
  have z4 := c3.size
  refine ops_run1 (l' := [(1, bv), (2, .pointer (some ⟨b1, 0, none⟩)), (4, .bool false), (15, .bool (!(decide (fewP fr to b))))]) (by kernel_rfl) ?_
  refine ops_nil (nx_seq ?_)
  refine at_ifn (fewP fr to b) (by kernel_rfl) (fun q1 => ?_) (fun q1 => ?_)
  refine at_seq (at_region ?_)
  refine ops_run1 (l' := [(1, bv), (2, .pointer (some ⟨b1, 0, none⟩)), (4, .bool true)]) (by kernel_rfl) ?_
  refine ops_nil (nx_seq ?_)
  refine at_ret (rs := [.tmp 4]) (vs := [.bool true]) rfl (by kernel_rfl) ?_
  exact ⟨_, rfl, rfl, ((((Chg.refl [] w).step0 c1 (by omega)).step0 c2 (by omega)).step0 c3 (by omega))⟩
  have hfew : b.length ≤ 1000 := q1.2.2
  refine at_skip (nx_seq (at_seq (at_region ?_)))
  have h8 := h3.keep0 c3 (by omega)
  refine ops_loadS (i := 0) (vs := [S fr, tv, .int .i64 at_]) 3 (by kernel_rfl) (by kernel_rfl) (by kernel_rfl) (by kernel_rfl) (by kernel_rfl) h8 (by kernel_rfl) (by kernel_rfl) ?_
  refine ops_run1 (l' := [(1, bv), (2, .pointer (some ⟨b1, 0, none⟩)), (4, .bool false), (17, .agg #[S fr, tv, .int .i64 at_]), (18, bv)]) (by kernel_rfl) ?_
  have h9 := h5.keep0 c3 (by omega)
  have h10 := h7.keep0 c3 (by omega)
  have h14 := h2.keep0 c2 (by omega)
  have h15 := h14.keep0 c3 (by omega)
  refine ops_callr (by kernel_rfl) (by kernel_rfl) (by kernel_rfl) (report_ok fr to (at_) b h9 h10 hfr hto ha0 ha1 h15) ?_
  rintro _ w4 ⟨c4, (⟨h11, k1, v1, h12, rfl, h13⟩ | ⟨h11, rfl⟩)⟩
  have z5 := c4.size
  have hxl := few_bound h11 hfew ha0 ha1 (bnd_small h12 (by omega))
  have hwit : Wit _ fr to at_ b k1 := ⟨h11, ha1, h12, rfl⟩
  refine ops_run5 (l' := [(1, bv), (2, .pointer (some ⟨b1, 0, none⟩)), (4, .bool false), (5, v1), (6, .int .i64 0)]) (by kernel_rfl) ?_
  refine ops_nil (nx_seq (at_seq (at_seq (at_region ?_))))
  refine ops_run2 (l' := [(1, bv), (2, .pointer (some ⟨b1, 0, none⟩)), (4, .bool false), (5, v1), (23, .bool false)]) (by kernel_rfl) ?_
  refine ops_nil (nx_seq ?_)
  refine at_iff (by kernel_rfl) ?_
  refine at_skip (nx_seq (at_seq (at_region ?_)))
  refine ops_run1 (l' := [(1, bv), (2, .pointer (some ⟨b1, 0, none⟩)), (4, .bool false), (28, v1)]) (by kernel_rfl) ?_
  have h19 := h15.keep0 c4 (by omega)
  refine ops_callr (by kernel_rfl) (by kernel_rfl) (by kernel_rfl) (read_ok h13 (by first | omega | (simp only [List.length_append, List.length_cons, List.length_nil, List.length_take, List.length_drop, List.length_map]; omega)) h19) ?_
  rintro _ w5 ⟨c5, (⟨fr1, to1, at1, b2, k2, tv1, bv1, h16, rfl, h17, h18⟩ | ⟨h16, rfl⟩)⟩
  have z6 := c5.size
  obtain ⟨rfl, rfl, rfl, rfl⟩ := wit_unique hwit h16
  refine ops_run4 (l' := [(1, bv), (2, .pointer (some ⟨b1, 0, none⟩)), (4, .bool false), (30, .agg #[S fr, tv1, .int .i64 at_]), (31, bv1), (32, .int .i64 0)]) (by kernel_rfl) ?_
  refine ops_alloc (z := .agg #[S [], .slice none 0 0, .int .i64 0]) (cs := [S [], .slice none 0 0, .int .i64 0]) (by kernel_rfl) (by kernel_rfl) (by kernel_rfl) (by kernel_rfl) (fun b3 w6 e2 h20 c6 z7 => ?_)
  have z8 := c6.size
  have h22 := h17.keep0 c6 (by omega)
  refine ops_storeS (i := 0) (vs := [S fr, tv1, .int .i64 at_]) [S fr, tv1, .int .i64 at_] (by kernel_rfl) (by kernel_rfl) (by kernel_rfl) (by kernel_rfl) (by simp only [List.all_cons, List.all_nil, h22.one, Bool.and_true, Bool.true_and] <;> rfl) (by kernel_rfl) h20 (by kernel_rfl) (by kernel_rfl) (fun w7 h21 c7 z9 => ?_)
  have z10 := c7.size
  refine ops_run2 (l' := [(1, bv), (2, .pointer (some ⟨b1, 0, none⟩)), (4, .bool false), (7, .pointer (some ⟨b3, 0, none⟩)), (8, bv1), (9, .int .i64 0)]) (by kernel_rfl) ?_
  refine ops_nil (nx_seq (at_seq (at_region ?_)))
  refine ops_run3 (l' := [(1, bv), (2, .pointer (some ⟨b1, 0, none⟩)), (4, .bool false), (7, .pointer (some ⟨b3, 0, none⟩)), (8, bv1), (35, .bool true)]) (by kernel_rfl) ?_
  have h23 := h8.keep0 c4 (by omega)
  have h24 := h23.keep0 c5 (by omega)
  have h25 := h24.keep0 c6 (by omega)
  have h26 := h25.keep1 c7 (by omega) (by omega)
  refine ops_loadS (i := 0) (vs := [S fr, tv, .int .i64 at_]) 3 (by kernel_rfl) (by kernel_rfl) (by kernel_rfl) (by kernel_rfl) (by kernel_rfl) h26 (by kernel_rfl) (by kernel_rfl) ?_
  refine ops_loadS (i := 0) (vs := [S fr, tv1, .int .i64 at_]) 3 (by kernel_rfl) (by kernel_rfl) (by kernel_rfl) (by kernel_rfl) (by kernel_rfl) h21 (by kernel_rfl) (by kernel_rfl) ?_
  have h27 := h9.keep0 c4 (by omega)
  have h28 := h27.keep0 c5 (by omega)
  have h29 := h28.keep0 c6 (by omega)
  have h30 := h29.keep1 c7 (by omega) (by omega)
  have h31 := h22.keep1 c7 (by omega) (by omega)
  refine ops_callr (by kernel_rfl) (by kernel_rfl) (by kernel_rfl) (same11m_ok fr to (at_) h30 h31) ?_
  rintro _ w8 ⟨rfl, c8⟩
  have z11 := c8.size
  refine ops_run3 (l' := [(4, .bool false), (8, bv1), (40, .bool true), (41, bv)]) (by kernel_rfl) ?_
  have h32 := h10.keep0 c4 (by omega)
  have h33 := h32.keep0 c5 (by omega)
  have h34 := h33.keep0 c6 (by omega)
  have h35 := h34.keep1 c7 (by omega) (by omega)
  have h36 := h35.keep0 c8 (by omega)
  refine ops_toS (b := b) (by kernel_rfl) (by kernel_rfl) (by kernel_rfl) (by kernel_rfl) (by kernel_rfl) h36 ?_
  refine ops_run1 (l' := [(4, .bool false), (40, .bool true), (42, S b), (43, bv1)]) (by kernel_rfl) ?_
  have h37 := h18.keep0 c6 (by omega)
  have h38 := h37.keep1 c7 (by omega) (by omega)
  have h39 := h38.keep0 c8 (by omega)
  refine ops_toS (b := b) (by kernel_rfl) (by kernel_rfl) (by kernel_rfl) (by kernel_rfl) (by kernel_rfl) h39 ?_
  refine ops_eqS (a := b) (b := b) (by kernel_rfl) (by kernel_rfl) (by kernel_rfl) (by kernel_rfl) ?_
  refine ops_run2 (l' := [(4, .bool (decide ((b : Bytes) = b)))]) (by kernel_rfl) ?_
  refine ops_nil (nx_seq ?_)
  refine at_ret (rs := [.tmp 4]) (vs := [.bool (decide ((b : Bytes) = b))]) rfl (by kernel_rfl) ?_
  exact ⟨_, rfl, (congrArg Value.bool (decide_eq_true (by first | rfl | omega))), (((((((((Chg.refl [] w).step0 c1 (by omega)).step0 c2 (by omega)).step0 c3 (by omega)).step0 c4 (by omega)).step0 c5 (by omega)).step0 c6 (by omega)).step c7 (by omega) (by intro y hy; simp only [List.mem_cons, List.not_mem_nil, or_false, false_or] at hy ⊢; try omega)).step0 c8 (by omega))⟩
  have z12 := c5.size
  exact (h16 _ _ _ _ _ hwit).elim
  have z13 := c4.size
  rcases repErr_ne fr to (at_) with he | he
  rw [he]
  refine ops_run5 (l' := [(1, bv), (2, .pointer (some ⟨b1, 0, none⟩)), (4, .bool false), (5, .slice none 0 0), (6, .int .i64 2)]) (by kernel_rfl) ?_
  refine ops_nil (nx_seq (at_seq (at_seq (at_region ?_))))
  refine ops_run2 (l' := [(1, bv), (2, .pointer (some ⟨b1, 0, none⟩)), (4, .bool false), (5, .slice none 0 0), (23, .bool true)]) (by kernel_rfl) ?_
  refine ops_nil (nx_seq ?_)
  refine at_ift (by kernel_rfl) ?_
  refine at_seq (at_region ?_)
  refine ops_run4 (l' := [(1, bv), (2, .pointer (some ⟨b1, 0, none⟩)), (4, .bool true), (5, .slice none 0 0)]) (by kernel_rfl) ?_
  refine ops_nil (nx_seq ?_)
  refine at_ret (rs := [.tmp 4]) (vs := [.bool true]) rfl (by kernel_rfl) ?_
  exact ⟨_, rfl, rfl, (((((Chg.refl [] w).step0 c1 (by omega)).step0 c2 (by omega)).step0 c3 (by omega)).step0 c4 (by omega))⟩
  rw [he]
  refine ops_run5 (l' := [(1, bv), (2, .pointer (some ⟨b1, 0, none⟩)), (4, .bool false), (5, .slice none 0 0), (6, .int .i64 110)]) (by kernel_rfl) ?_
  refine ops_nil (nx_seq (at_seq (at_seq (at_region ?_))))
  refine ops_run2 (l' := [(1, bv), (2, .pointer (some ⟨b1, 0, none⟩)), (4, .bool false), (5, .slice none 0 0), (23, .bool true)]) (by kernel_rfl) ?_
  refine ops_nil (nx_seq ?_)
  refine at_ift (by kernel_rfl) ?_
  refine at_seq (at_region ?_)
  refine ops_run4 (l' := [(1, bv), (2, .pointer (some ⟨b1, 0, none⟩)), (4, .bool true), (5, .slice none 0 0)]) (by kernel_rfl) ?_
  refine ops_nil (nx_seq ?_)
  refine at_ret (rs := [.tmp 4]) (vs := [.bool true]) rfl (by kernel_rfl) ?_
  exact ⟨_, rfl, rfl, (((((Chg.refl [] w).step0 c1 (by omega)).step0 c2 (by omega)).step0 c3 (by omega)).step0 c4 (by omega))⟩

end Go.Proofs.YtnjkdnbabogcjaaDoor
