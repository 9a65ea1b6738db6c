/- A walk, printed by a program of my own (wip/gen/walk.py) from a script of mine. -/
import Derived.Test.YtnjkdnbabogcjaaDoorProg
import Derived.Test.YtnjkdnbabogcjaaDoorL0
import Derived.Test.YtnjkdnbabogcjaaDoorQ6
import Derived.Test.YtnjkdnbabogcjaaDoorP11
set_option maxHeartbeats 4000000
set_option linter.unusedVariables false
set_option linter.unusedSimpArgs false
set_option maxRecDepth 100000
namespace Go.Proofs.YtnjkdnbabogcjaaDoor
open Go Go.RowKit Go.Kw

theorem awake_ok (w : World) (hg : Gl w) : Pu Tryd.prog 9 #[] w (.bool true) := by
  have hgs := hg.size
  refine enter (n := 13) (args := []) Tryd.func9 rfl rfl (Nat.le_of_ble_eq_true (by kernel_rfl)) ?_
  refine at_seq (at_region ?_)
  refine ops_run1 (l' := [(0, .bool false)]) (by kernel_rfl) ?_
  refine ops_nil (nx_seq (at_seq (at_region ?_)))
  refine ops_litK (e := 5) [.int .u8 97, .int .u8 98] (by kernel_rfl) (by kernel_rfl) (by kernel_rfl) rfl (by decide) (by kernel_rfl) (by kernel_rfl) (by kernel_rfl) (fun v1 w1 h1 c1 z1 => ?_)
  have z2 := c1.size
  replace h1 : Bs w1 (w.heap.size) (w1.heap.size) v1 [97, 98] := h1
  refine ops_litV (e := 22) [v1, .slice none 0 0] (by kernel_rfl) (by kernel_rfl) (by kernel_rfl) (by kernel_rfl) (by intro v hv; simp only [List.mem_cons, List.not_mem_nil, or_false] at hv; rcases hv with rfl | rfl <;> first | exact h1.cells1 | exact (Sl.nil w1 0 0 1 (by omega) : Bs w1 0 0 (.slice none 0 0) []).cells1) rfl (by decide) (fun v2 w2 h2 c2 z3 => ?_)
  have z4 := c2.size
  obtain ⟨A1, n1, c3, rfl⟩ := h2.1.sl.shape
  have h3 : OwnBB w2 (w1.heap.size) (.slice A1 n1 c3) [[97, 98], []] := ownBB_lit rfl h2 c2 ⟨ElB.of h1 h1.hi_le (by simp), ⟨ElB.of (Sl.nil w1 0 0 1 (by omega) : Bs w1 0 0 (.slice none 0 0) []) (Sl.nil w1 0 0 1 (by omega) : Bs w1 0 0 (.slice none 0 0) []).hi_le (by simp), trivial⟩⟩
  have h5 := hg.keep0 c1 (by omega)
  have h6 := h5.keep0 c2 (by omega)
  refine ops_callr (by kernel_rfl) (by kernel_rfl) (by kernel_rfl) (put_ok h3.bbs (Nat.le_refl _) (by simp) (by intro p hp; simp at hp; rcases hp with rfl | rfl <;> simp) h6) ?_
  rintro v3 w3 ⟨h4, c4⟩
  have z5 := c4.size
  refine ops_toS (b := putL [[97, 98], []]) (by kernel_rfl) (by kernel_rfl) (by kernel_rfl) (by kernel_rfl) (by kernel_rfl) h4.sl ?_
  refine ops_eqS (a := putL [[97, 98], []]) (b := [50, 58, 97, 98, 44, 48, 58, 44]) (by kernel_rfl) (by kernel_rfl) (by kernel_rfl) (by kernel_rfl) ?_
  refine ops_run1 (l' := [(0, .bool false), (7, .bool (decide ((putL [[97, 98], []] : Bytes) = [50, 58, 97, 98, 44, 48, 58, 44])))]) (by kernel_rfl) ?_
  by_cases q1 : (putL [[97, 98], []] : Bytes) = [50, 58, 97, 98, 44, 48, 58, 44]
  rw [show (decide ((putL [[97, 98], []] : Bytes) = [50, 58, 97, 98, 44, 48, 58, 44])) = true from decide_eq_true q1]
  refine ops_lit (e := 9) (sz := 1) [S [97, 64, 98]] (by kernel_rfl) (by kernel_rfl) (by kernel_rfl) rfl (by decide) (fun v4 w4 h7 c5 z6 => ?_)
  have z7 := c5.size
  obtain ⟨A2, n2, c6, rfl⟩ := h7.1.sl.shape
  replace h7 : OwnS w4 (w3.heap.size) (.slice A2 n2 c6) [[97, 64, 98]] := h7.1
  refine ops_run1 (l' := [(0, .bool false), (7, .bool true), (9, .agg #[S [], (.slice A2 n2 c6), .int .i64 0])]) (by kernel_rfl) ?_
  have h8 := h6.keep0 c4 (by omega)
  have h9 := h8.keep0 c5 (by omega)
  refine ops_callr (by kernel_rfl) (by kernel_rfl) (by kernel_rfl) (check_ok [] [[97, 64, 98]] (0) h7.sl [] (Sl.nil w4 0 0 1 (by omega) : Bs w4 0 0 (.slice none 0 0) []) (by simp) (by intro s hs; simp at hs; subst hs; simp) h9) ?_
  rintro _ w5 ⟨rfl, c7⟩
  have z8 := c7.size
  by_cases q2 : checkP [] [[97, 64, 98]] (0) []
  rw [if_pos q2]
  have hck := q2
  have hat0 : (0 : Int) ≤ 0 := q2.1.2.2.1
  refine ops_run3 (l' := [(0, .bool true)]) (by kernel_rfl) ?_
  refine ops_nil (nx_seq ?_)
  refine at_ret (rs := [.tmp 0]) (vs := [.bool true]) rfl (by kernel_rfl) ?_
  exact ⟨_, rfl, rfl, ((((((Chg.refl [] w).step0 c1 (by omega)).step0 c2 (by omega)).step0 c4 (by omega)).step0 c5 (by omega)).step0 c7 (by omega))⟩
  rw [if_neg q2]
  have hnck := q2
  refine ops_run3 (l' := [(0, .bool false)]) (by kernel_rfl) ?_
  refine ops_nil (nx_seq ?_)
  refine at_ret (rs := [.tmp 0]) (vs := [.bool false]) rfl (by kernel_rfl) ?_
  first | exact absurd awake_check hnck | exact absurd awake_put q1
  rw [show (decide ((putL [[97, 98], []] : Bytes) = [50, 58, 97, 98, 44, 48, 58, 44])) = false from decide_eq_false q1]
  refine ops_run6 (l' := [(0, .bool false)]) (by kernel_rfl) ?_
  refine ops_nil (nx_seq ?_)
  refine at_ret (rs := [.tmp 0]) (vs := [.bool false]) rfl (by kernel_rfl) ?_
  first | exact absurd awake_check hnck | exact absurd awake_put q1
theorem entryDecodes_ok {w : World} {lo hi : Nat} {bv : Value} {b : Bytes} (hb : Bs w lo hi bv b) (hg : Gl w) : Pu Tryd.prog 3 #[bv] w (.bool true) := by
  have hhi := hb.hi_le
  have hgs := hg.size
  have hbl := hb.len_le
  refine enter (n := 30) (args := [bv]) Tryd.func3 rfl rfl (Nat.le_of_ble_eq_true (by kernel_rfl)) ?_
  refine at_seq (at_region ?_)
  refine ops_run1 (l' := [(0, bv), (2, .bool false)]) (by kernel_rfl) ?_
  refine ops_nil (nx_seq (at_seq (at_seq (at_region ?_))))
  refine ops_callr (by kernel_rfl) (by kernel_rfl) (by kernel_rfl) (awake_ok w hg) ?_
  rintro _ w1 ⟨rfl, c1⟩
  have z1 := c1.size
  refine ops_run1 (l' := [(0, bv), (2, .bool false), (8, .bool false)]) (by kernel_rfl) ?_
  refine ops_nil (nx_seq ?_)
  refine at_iff (by kernel_rfl) ?_
  refine at_skip (nx_seq (at_seq (at_seq (at_region ?_))))
  refine ops_run1 (l' := [(0, bv), (2, .bool false), (9, bv)]) (by kernel_rfl) ?_
  have h1 := hb.keep0 c1 (by omega)
  refine ops_len (e := 5) (by kernel_rfl) (by kernel_rfl) (by kernel_rfl) (by kernel_rfl) h1 ?_
  refine ops_run1 (l' := [(0, bv), (2, .bool false), (11, .bool (decide (((b.length : Int) : Int) > (3000 : Int))))]) (by kernel_rfl) ?_
  refine ops_nil (nx_seq ?_)
  refine at_ifp (((b.length : Int) : Int) > (3000 : Int)) (by kernel_rfl) (fun q1 => ?_) (fun q1 => ?_)
  refine at_seq (at_region ?_)
  refine ops_run1 (l' := [(0, bv), (2, .bool true)]) (by kernel_rfl) ?_
  refine ops_nil (nx_seq ?_)
  refine at_ret (rs := [.tmp 2]) (vs := [.bool true]) rfl (by kernel_rfl) ?_
  exact ⟨_, rfl, rfl, ((Chg.refl [] w).step0 c1 (by omega))⟩
  refine at_skip (nx_seq (at_seq (at_region ?_)))
  refine ops_run1 (l' := [(0, bv), (2, .bool false), (13, bv)]) (by kernel_rfl) ?_
  have h2 := hg.keep0 c1 (by omega)
  refine ops_callr (by kernel_rfl) (by kernel_rfl) (by kernel_rfl) (decode_ok h1 (by omega) h2) ?_
  rintro _ w2 ⟨c2, (⟨m, tv1, bd1, hd1, rfl, ht1, hb1⟩ | ⟨hno1, rfl⟩)⟩
  have z2 := c2.size
  refine ops_run3 (l' := [(0, bv), (2, .bool false), (15, .agg #[.int .i64 m.id, S m.cls, S m.fr, tv1, .int .i64 m.at_, bd1]), (16, .int .i64 0)]) (by kernel_rfl) ?_
  refine ops_alloc (z := .agg #[.int .i64 0, S [], S [], .slice none 0 0, .int .i64 0, .slice none 0 0]) (cs := [.int .i64 0, S [], S [], .slice none 0 0, .int .i64 0, .slice none 0 0]) (by kernel_rfl) (by kernel_rfl) (by kernel_rfl) (by kernel_rfl) (fun b1 w3 e1 h3 c3 z3 => ?_)
  have z4 := c3.size
  have h5 := ht1.keep0 c3 (by omega)
  have h6 := hb1.keep0 c3 (by omega)
  refine ops_storeS (i := 0) (vs := [.int .i64 m.id, S m.cls, S m.fr, tv1, .int .i64 m.at_, bd1]) [.int .i64 m.id, S m.cls, S m.fr, tv1, .int .i64 m.at_, bd1] (by kernel_rfl) (by kernel_rfl) (by kernel_rfl) (by kernel_rfl) (by simp only [List.all_cons, List.all_nil, h5.one, h6.one, Bool.and_true, Bool.true_and] <;> rfl) (by kernel_rfl) h3 (by kernel_rfl) (by kernel_rfl) (fun w4 h4 c4 z5 => ?_)
  have z6 := c4.size
  refine ops_run1 (l' := [(0, bv), (2, .bool false), (3, .pointer (some ⟨b1, 0, none⟩)), (4, .int .i64 0)]) (by kernel_rfl) ?_
  refine ops_nil (nx_seq (at_seq (at_region ?_)))
  refine ops_run1 (l' := [(2, .bool false), (3, .pointer (some ⟨b1, 0, none⟩)), (4, .int .i64 0), (18, bv)]) (by kernel_rfl) ?_
  have h7 := h1.keep0 c2 (by omega)
  have h8 := h7.keep0 c3 (by omega)
  have h9 := h8.keep1 c4 (by omega) (by omega)
  have h10 := h2.keep0 c2 (by omega)
  have h11 := h10.keep0 c3 (by omega)
  have h12 := h11.keep c4 (by omega) (by intro y hy; simp only [List.mem_cons, List.not_mem_nil, or_false]; omega)
  refine ops_callr (by kernel_rfl) (by kernel_rfl) (by kernel_rfl) (rDecode_ok h9 (by omega) h12) ?_
  rintro _ w5 ⟨c5, (⟨m2, tv2, bd2, hd2, rfl, ht2, lo9, hi9, hb2⟩ | ⟨hno2, rfl⟩)⟩
  have z7 := c5.size
  have em := dec_uniq hd1 hd2
  subst em
  have hl9 := hb2.hi_le
  refine ops_run3 (l' := [(2, .bool false), (3, .pointer (some ⟨b1, 0, none⟩)), (4, .int .i64 0), (20, .agg #[.int .i64 m.id, S m.cls, S m.fr, tv2, .int .i64 m.at_, bd2]), (21, .int .i64 0)]) (by kernel_rfl) ?_
  refine ops_alloc (z := .agg #[.int .i64 0, S [], S [], .slice none 0 0, .int .i64 0, .slice none 0 0]) (cs := [.int .i64 0, S [], S [], .slice none 0 0, .int .i64 0, .slice none 0 0]) (by kernel_rfl) (by kernel_rfl) (by kernel_rfl) (by kernel_rfl) (fun b2 w6 e2 h13 c6 z8 => ?_)
  have z9 := c6.size
  have h15 := ht2.keep0 c6 (by omega)
  have h16 := hb2.keep0 c6 (by omega)
  refine ops_storeS (i := 0) (vs := [.int .i64 m.id, S m.cls, S m.fr, tv2, .int .i64 m.at_, bd2]) [.int .i64 m.id, S m.cls, S m.fr, tv2, .int .i64 m.at_, bd2] (by kernel_rfl) (by kernel_rfl) (by kernel_rfl) (by kernel_rfl) (by simp only [List.all_cons, List.all_nil, h15.one, h16.one, Bool.and_true, Bool.true_and] <;> rfl) (by kernel_rfl) h13 (by kernel_rfl) (by kernel_rfl) (fun w7 h14 c7 z10 => ?_)
  have z11 := c7.size
  refine ops_run1 (l' := [(2, .bool false), (3, .pointer (some ⟨b1, 0, none⟩)), (4, .int .i64 0), (5, .pointer (some ⟨b2, 0, none⟩)), (6, .int .i64 0)]) (by kernel_rfl) ?_
  refine ops_nil (nx_seq (at_seq (at_region ?_)))
  refine ops_run4 (l' := [(2, .bool false), (3, .pointer (some ⟨b1, 0, none⟩)), (5, .pointer (some ⟨b2, 0, none⟩)), (25, .bool true)]) (by kernel_rfl) ?_
  have h17 := h4.keep0 c5 (by omega)
  have h18 := h17.keep0 c6 (by omega)
  have h19 := h18.keep1 c7 (by omega) (by omega)
  refine ops_loadS (i := 0) (vs := [.int .i64 m.id, S m.cls, S m.fr, tv1, .int .i64 m.at_, bd1]) 6 (by kernel_rfl) (by kernel_rfl) (by kernel_rfl) (by kernel_rfl) (by kernel_rfl) h19 (by kernel_rfl) (by kernel_rfl) ?_
  refine ops_loadS (i := 0) (vs := [.int .i64 m.id, S m.cls, S m.fr, tv2, .int .i64 m.at_, bd2]) 6 (by kernel_rfl) (by kernel_rfl) (by kernel_rfl) (by kernel_rfl) (by kernel_rfl) h14 (by kernel_rfl) (by kernel_rfl) ?_
  have h20 := h5.keep1 c4 (by omega) (by omega)
  have h21 := h20.keep0 c5 (by omega)
  have h22 := h21.keep0 c6 (by omega)
  have h23 := h22.keep1 c7 (by omega) (by omega)
  have h24 := h15.keep1 c7 (by omega) (by omega)
  have h25 := h6.keep1 c4 (by omega) (by omega)
  have h26 := h25.keep0 c5 (by omega)
  have h27 := h26.keep0 c6 (by omega)
  have h28 := h27.keep1 c7 (by omega) (by omega)
  have h29 := h16.keep1 c7 (by omega) (by omega)
  refine ops_callr (by kernel_rfl) (by kernel_rfl) (by kernel_rfl) (same15_ok m h23 h24 h28 h29) ?_
  rintro _ w8 ⟨rfl, c8⟩
  have z12 := c8.size
  refine ops_run2 (l' := [(2, .bool true)]) (by kernel_rfl) ?_
  refine ops_nil (nx_seq ?_)
  refine at_ret (rs := [.tmp 2]) (vs := [.bool true]) rfl (by kernel_rfl) ?_
  exact ⟨_, rfl, rfl, (((((((((Chg.refl [] w).step0 c1 (by omega)).step0 c2 (by omega)).step0 c3 (by omega)).step c4 (by omega) (by intro y hy; simp only [List.mem_cons, List.not_mem_nil, or_false, false_or] at hy ⊢; try omega)).step0 c5 (by omega)).step0 c6 (by omega)).step c7 (by omega) (by intro y hy; simp only [List.mem_cons, List.not_mem_nil, or_false, false_or] at hy ⊢; try omega)).step0 c8 (by omega))⟩
  have z13 := c5.size
  exact absurd hd1 (hno2 m)
  have z14 := c2.size
  refine ops_run3 (l' := [(0, bv), (2, .bool false), (15, .agg #[.int .i64 0, S [], S [], .slice none 0 0, .int .i64 0, .slice none 0 0]), (16, .int .i64 150)]) (by kernel_rfl) ?_
  refine ops_alloc (z := .agg #[.int .i64 0, S [], S [], .slice none 0 0, .int .i64 0, .slice none 0 0]) (cs := [.int .i64 0, S [], S [], .slice none 0 0, .int .i64 0, .slice none 0 0]) (by kernel_rfl) (by kernel_rfl) (by kernel_rfl) (by kernel_rfl) (fun b3 w9 e3 h30 c9 z15 => ?_)
  have z16 := c9.size
  refine ops_storeS (i := 0) (vs := [.int .i64 0, S [], S [], .slice none 0 0, .int .i64 0, .slice none 0 0]) [.int .i64 0, S [], S [], .slice none 0 0, .int .i64 0, .slice none 0 0] (by kernel_rfl) (by kernel_rfl) (by kernel_rfl) (by kernel_rfl) (by kernel_rfl) (by kernel_rfl) h30 (by kernel_rfl) (by kernel_rfl) (fun w10 h31 c10 z17 => ?_)
  have z18 := c10.size
  refine ops_run1 (l' := [(0, bv), (2, .bool false), (3, .pointer (some ⟨b3, 0, none⟩)), (4, .int .i64 150)]) (by kernel_rfl) ?_
  refine ops_nil (nx_seq (at_seq (at_region ?_)))
  refine ops_run1 (l' := [(2, .bool false), (3, .pointer (some ⟨b3, 0, none⟩)), (4, .int .i64 150), (18, bv)]) (by kernel_rfl) ?_
  have h32 := h1.keep0 c2 (by omega)
  have h33 := h32.keep0 c9 (by omega)
  have h34 := h33.keep1 c10 (by omega) (by omega)
  have h35 := h2.keep0 c2 (by omega)
  have h36 := h35.keep0 c9 (by omega)
  have h37 := h36.keep c10 (by omega) (by intro y hy; simp only [List.mem_cons, List.not_mem_nil, or_false]; omega)
  refine ops_callr (by kernel_rfl) (by kernel_rfl) (by kernel_rfl) (rDecode_ok h34 (by omega) h37) ?_
  rintro _ w11 ⟨c11, (⟨m2, tv2, bd2, hd2, rfl, ht2, lo9, hi9, hb2⟩ | ⟨hno2, rfl⟩)⟩
  have z19 := c11.size
  exact absurd hd2 (hno1 m2)
  have z20 := c11.size
  refine ops_run3 (l' := [(2, .bool false), (3, .pointer (some ⟨b3, 0, none⟩)), (4, .int .i64 150), (20, .agg #[.int .i64 0, S [], S [], .slice none 0 0, .int .i64 0, .slice none 0 0]), (21, .int .i64 150)]) (by kernel_rfl) ?_
  refine ops_alloc (z := .agg #[.int .i64 0, S [], S [], .slice none 0 0, .int .i64 0, .slice none 0 0]) (cs := [.int .i64 0, S [], S [], .slice none 0 0, .int .i64 0, .slice none 0 0]) (by kernel_rfl) (by kernel_rfl) (by kernel_rfl) (by kernel_rfl) (fun b4 w12 e4 h38 c12 z21 => ?_)
  have z22 := c12.size
  refine ops_storeS (i := 0) (vs := [.int .i64 0, S [], S [], .slice none 0 0, .int .i64 0, .slice none 0 0]) [.int .i64 0, S [], S [], .slice none 0 0, .int .i64 0, .slice none 0 0] (by kernel_rfl) (by kernel_rfl) (by kernel_rfl) (by kernel_rfl) (by kernel_rfl) (by kernel_rfl) h38 (by kernel_rfl) (by kernel_rfl) (fun w13 h39 c13 z23 => ?_)
  have z24 := c13.size
  refine ops_run1 (l' := [(2, .bool false), (3, .pointer (some ⟨b3, 0, none⟩)), (4, .int .i64 150), (5, .pointer (some ⟨b4, 0, none⟩)), (6, .int .i64 150)]) (by kernel_rfl) ?_
  refine ops_nil (nx_seq (at_seq (at_region ?_)))
  refine ops_run4 (l' := [(2, .bool false), (3, .pointer (some ⟨b3, 0, none⟩)), (5, .pointer (some ⟨b4, 0, none⟩)), (25, .bool true)]) (by kernel_rfl) ?_
  have h40 := h31.keep0 c11 (by omega)
  have h41 := h40.keep0 c12 (by omega)
  have h42 := h41.keep1 c13 (by omega) (by omega)
  refine ops_loadS (i := 0) (vs := [.int .i64 0, S [], S [], .slice none 0 0, .int .i64 0, .slice none 0 0]) 6 (by kernel_rfl) (by kernel_rfl) (by kernel_rfl) (by kernel_rfl) (by kernel_rfl) h42 (by kernel_rfl) (by kernel_rfl) ?_
  refine ops_loadS (i := 0) (vs := [.int .i64 0, S [], S [], .slice none 0 0, .int .i64 0, .slice none 0 0]) 6 (by kernel_rfl) (by kernel_rfl) (by kernel_rfl) (by kernel_rfl) (by kernel_rfl) h39 (by kernel_rfl) (by kernel_rfl) ?_
  refine ops_callr (by kernel_rfl) (by kernel_rfl) (by kernel_rfl) (same15_ok ⟨0, [], [], [], 0, []⟩ (Sl.nil w13 0 0 1 (by omega) : Ss w13 0 0 (.slice none 0 0) []) (Sl.nil w13 0 0 1 (by omega) : Ss w13 0 0 (.slice none 0 0) []) (Sl.nil w13 0 0 1 (by omega) : Bs w13 0 0 (.slice none 0 0) []) (Sl.nil w13 0 0 1 (by omega) : Bs w13 0 0 (.slice none 0 0) [])) ?_
  rintro _ w14 ⟨rfl, c14⟩
  have z25 := c14.size
  refine ops_run2 (l' := [(2, .bool true)]) (by kernel_rfl) ?_
  refine ops_nil (nx_seq ?_)
  refine at_ret (rs := [.tmp 2]) (vs := [.bool true]) rfl (by kernel_rfl) ?_
  exact ⟨_, rfl, rfl, (((((((((Chg.refl [] w).step0 c1 (by omega)).step0 c2 (by omega)).step0 c9 (by omega)).step c10 (by omega) (by intro y hy; simp only [List.mem_cons, List.not_mem_nil, or_false, false_or] at hy ⊢; try omega)).step0 c11 (by omega)).step0 c12 (by omega)).step c13 (by omega) (by intro y hy; simp only [List.mem_cons, List.not_mem_nil, or_false, false_or] at hy ⊢; try omega)).step0 c14 (by omega))⟩

end Go.Proofs.YtnjkdnbabogcjaaDoor
