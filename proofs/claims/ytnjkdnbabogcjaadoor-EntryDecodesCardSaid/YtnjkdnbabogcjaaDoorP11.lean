/- A walk, printed by a program of my own (wip/gen/walk.py) from a script of mine. -/
import Derived.Test.YtnjkdnbabogcjaaDoorProg
import Derived.Test.YtnjkdnbabogcjaaDoorL0
import Derived.Test.YtnjkdnbabogcjaaDoorP10
set_option maxHeartbeats 4000000
set_option linter.unusedVariables false
set_option linter.unusedSimpArgs false
set_option maxRecDepth 100000
namespace Go.Proofs.YtnjkdnbabogcjaaDoor
open Go Go.RowKit Go.Kw

theorem take_snoc1 {D : List Bytes} {k : Nat} (h : k < D.length) : D.take k ++ [D.getD k []] = D.take (k + 1) := by
  have := take_snoc (ps := []) h
  simpa using this
theorem rDecode_ok {w : World} {lo hi : Nat} {bv : Value} {b : Bytes} (hb : Bs w lo hi bv b) (hs : b.length ≤ 1000000) (hg : Gl w) :
    Rt Tryd.prog 11 #[bv] w fun u w' => Chg [] w.heap.size w w' ∧ ((∃ (m : Msg) (tv bdv : Value), DecP m b ∧ u = .tuple #[.agg #[.int .i64 m.id, S m.cls, S m.fr, tv, .int .i64 m.at_, bdv], .int .i64 0] ∧ Ss w' w.heap.size w'.heap.size tv m.to ∧ ∃ lo3 hi3, Bs w' lo3 hi3 bdv m.body) ∨ (NoM b ∧ u = .tuple #[.agg #[.int .i64 0, S [], S [], .slice none 0 0, .int .i64 0, .slice none 0 0], .int .i64 150])) := by
  have hhi := hb.hi_le
  have hgs := hg.size
  refine enter (n := 111) (args := [bv]) Tryd.func11 rfl rfl (Nat.le_of_ble_eq_true (by kernel_rfl)) ?_
  refine at_seq (at_region ?_)
  refine ops_alloc (z := .agg #[.int .i64 0, S [], S [], .slice none 0 0, .int .i64 0, .slice none 0 0]) (cs := [.int .i64 0, S [], S [], .slice none 0 0, .int .i64 0, .slice none 0 0]) (by kernel_rfl) (by kernel_rfl) (by kernel_rfl) (by kernel_rfl) (fun b1 w1 e1 h1 c1 z1 => ?_)
  have z2 := c1.size
  refine ops_run1 (l' := [(0, bv), (2, .pointer (some ⟨b1, 0, none⟩)), (3, .int .i64 0)]) (by kernel_rfl) ?_
  refine ops_nil (nx_seq (at_seq (at_region ?_)))
  refine ops_run1 (l' := [(0, bv), (2, .pointer (some ⟨b1, 0, none⟩)), (3, .int .i64 0), (4, .slice none 0 0)]) (by kernel_rfl) ?_
  refine ops_nil (nx_seq (at_seq (at_region ?_)))
  refine ops_run2 (l' := [(0, bv), (2, .pointer (some ⟨b1, 0, none⟩)), (3, .int .i64 0), (4, .slice none 0 0), (5, bv)]) (by kernel_rfl) ?_
  refine ops_nil (nx_seq ?_)
  refine at_cut (X := Value × (List Bytes) × Value × Bytes) (fun x_ => [(0, bv), (2, .pointer (some ⟨b1, 0, none⟩)), (3, .int .i64 0), (4, x_.1), (5, x_.2.2.1)]) (fun x_ W1 => Chg [] (w1.heap.size) w1 W1 ∧ OwnBB W1 w1.heap.size x_.1 x_.2.1 ∧ Bs W1 lo hi x_.2.2.1 x_.2.2.2 ∧ (x_.2.1.length ≤ 110) ∧ (b = putL x_.2.1 ++ x_.2.2.2) ∧ (Short x_.2.1) ∧ (x_.2.1.length = 110 ∨ ∀ x r', ¬ CutR x_.2.2.2 x r')) ?_ ?_
  refine at_block ?_
  have h2 := hb.keep0 c1 (by omega)
  refine at_loop (X := Value × (List Bytes) × Value × Bytes) (fun x_ => [(0, bv), (2, .pointer (some ⟨b1, 0, none⟩)), (3, .int .i64 0), (4, x_.1), (5, x_.2.2.1)]) (fun x_ W2 => Chg [] (w1.heap.size) w1 W2 ∧ OwnBB W2 w1.heap.size x_.1 x_.2.1 ∧ Bs W2 lo hi x_.2.2.1 x_.2.2.2 ∧ (x_.2.1.length ≤ 110) ∧ (b = putL x_.2.1 ++ x_.2.2.2) ∧ (Short x_.2.1)) (fun x_ => 110 - x_.2.1.length) (.slice none 0 0, [], bv, b) (proj_sub [0, 2, 3, 4, 5] (by kernel_rfl)) ⟨(Chg.refl [] w1), OwnBB.nil _ _ (by omega), h2, (show [].length ≤ 110 by first | omega | (simp only [List.length_append, List.length_cons, List.length_nil, List.length_take, List.length_drop, List.length_map]; omega)), (show b = putL [] ++ b by rfl), (show Short [] by intro p hp; cases hp)⟩ ?_
  rintro ⟨v, ls, rv, r⟩ w2 ⟨h3, h4, h5, h6, h7, h8⟩
  replace h3 : Chg [] (w1.heap.size) w1 w2 := h3
  replace h4 : OwnBB w2 w1.heap.size v ls := h4
  replace h5 : Bs w2 lo hi rv r := h5
  replace h6 : (ls.length ≤ 110) := h6
  replace h7 : (b = putL ls ++ r) := h7
  replace h8 : (Short ls) := h8
  have z3 := h3.size
  have hp := h7
  have hsh := h8
  have hrl : r.length ≤ b.length := by have := congrArg List.length hp; rw [List.length_append] at this; omega
  refine at_seq (at_seq (at_region ?_))
  refine ops_run1 (l' := [(0, bv), (2, .pointer (some ⟨b1, 0, none⟩)), (3, .int .i64 0), (4, v), (5, rv), (15, v)]) (by kernel_rfl) ?_
  obtain ⟨vs1, lo1, hi1, h9, h10, h11⟩ := id h4.bbs
  refine ops_len (e := 22) (by kernel_rfl) (by kernel_rfl) (by kernel_rfl) (by kernel_rfl) h10 ?_
  refine ops_run1 (l' := [(0, bv), (2, .pointer (some ⟨b1, 0, none⟩)), (3, .int .i64 0), (4, v), (5, rv), (17, .bool (decide (((ls.length : Int) : Int) < (110 : Int))))]) (by kernel_rfl) ?_
  refine ops_nil (nx_seq ?_)
  refine at_ifp (((ls.length : Int) : Int) < (110 : Int)) (by kernel_rfl) (fun q1 => ?_) (fun q1 => ?_)
  refine at_skip (nx_seq (at_block (at_seq (at_region ?_))))
  refine ops_run1 (l' := [(0, bv), (2, .pointer (some ⟨b1, 0, none⟩)), (3, .int .i64 0), (4, v), (5, rv), (19, rv)]) (by kernel_rfl) ?_
  refine ops_callr (by kernel_rfl) (by kernel_rfl) (by kernel_rfl) (take_ok r h5 (by first | omega | (simp only [List.length_append, List.length_cons, List.length_nil, List.length_take, List.length_drop, List.length_map]; omega))) ?_
  rintro _ w3 ⟨c2, (⟨y1, r1, v1, v2, rfl, h12, h13, h14⟩ | ⟨h12, rfl⟩)⟩
  have z4 := c2.size
  refine ops_run7 (l' := [(0, bv), (2, .pointer (some ⟨b1, 0, none⟩)), (3, .int .i64 0), (4, v), (5, rv), (6, v1), (7, v2), (8, .bool true)]) (by kernel_rfl) ?_
  refine ops_nil (nx_seq (at_seq (at_seq (at_region ?_))))
  refine ops_run2 (l' := [(0, bv), (2, .pointer (some ⟨b1, 0, none⟩)), (3, .int .i64 0), (4, v), (5, rv), (6, v1), (7, v2), (25, .bool false)]) (by kernel_rfl) ?_
  refine ops_nil (nx_seq ?_)
  refine at_iff (by kernel_rfl) ?_
  refine at_skip (nx_seq (at_seq (at_region ?_)))
  refine ops_run2 (l' := [(0, bv), (2, .pointer (some ⟨b1, 0, none⟩)), (3, .int .i64 0), (4, v), (5, rv), (7, v2), (26, v), (27, v1)]) (by kernel_rfl) ?_
  refine ops_litV (e := 22) [v1] (by kernel_rfl) (by kernel_rfl) (by kernel_rfl) (by kernel_rfl) (by intro v hv; simp only [List.mem_cons, List.not_mem_nil, or_false] at hv; rcases hv with rfl; exact h13.sl.cells1) rfl (by decide) (fun v3 w4 h15 c3 z5 => ?_)
  have z6 := c3.size
  have h16 : OwnBB w4 (w3.heap.size) v3 [y1] := ownBB_lit rfl h15 c3 ⟨ElB.of h13.sl h13.sl.hi_le (by simp), trivial⟩
  have h17 := h4.keep0 c2
  have h18 := h17.keep0 c3
  have h20 := h13.keep c3 (by omega) (fun _ _ _ => by simp)
  refine ops_appendBB (e := 22) (by_ := 24) (l1 := ls) (l2 := [y1]) (by kernel_rfl) (by kernel_rfl) (by kernel_rfl) (by kernel_rfl) (by kernel_rfl) (by kernel_rfl) (by kernel_rfl) h18 h15.1.sl ⟨ElB.of h20.sl h20.sl.hi_le (fun b hb => by have := (OwnBB.slice h4) b hb; omega), trivial⟩ (by intro u hu; simp only [List.mem_cons, List.not_mem_nil, or_false] at hu; subst hu; exact sl_one h20.sl) (by first | omega | (simp only [List.length_append, List.length_cons, List.length_nil, List.length_take, List.length_drop, List.length_map]; omega)) (by first | omega | (simp only [List.length_append, List.length_cons, List.length_nil, List.length_take, List.length_drop, List.length_map]; omega)) (fun v4 w5 h19 c4 c5 => ?_)
  have z7 := c4.size
  refine ops_run1 (l' := [(0, bv), (2, .pointer (some ⟨b1, 0, none⟩)), (3, .int .i64 0), (4, v4), (5, rv), (7, v2)]) (by kernel_rfl) ?_
  refine ops_nil (nx_seq (at_region ?_))
  refine ops_run2 (l' := [(0, bv), (2, .pointer (some ⟨b1, 0, none⟩)), (3, .int .i64 0), (4, v4), (5, v2)]) (by kernel_rfl) ?_
  refine ops_nil (nx_blk ?_)
  have h21 := h14.keep0 c3 (by omega)
  have h22 := h21.keep0 c4 (by omega)
  refine nx_round (v4, ls ++ [y1], v2, r1) (proj_sub [0, 2, 3, 4, 5] (by kernel_rfl)) ⟨(((((Chg.refl [] w1).step0 h3 (by omega)).step0 c2 (by omega)).step0 c3 (by omega)).step0 c4 (by omega)), h19, h22, (show (ls ++ [y1]).length ≤ 110 by first | omega | (simp only [List.length_append, List.length_cons, List.length_nil, List.length_take, List.length_drop, List.length_map]; omega)), (show b = putL (ls ++ [y1]) ++ r1 by rw [hp, h12.2, ← List.append_assoc, ← putL_snoc]), (show Short (ls ++ [y1]) by exact short_snoc hsh h12.1)⟩ (show 110 - (ls ++ [y1]).length < 110 - ls.length by simp only [List.length_append, List.length_cons, List.length_nil]; omega)
  have z8 := c2.size
  refine ops_run7 (l' := [(0, bv), (2, .pointer (some ⟨b1, 0, none⟩)), (3, .int .i64 0), (4, v), (5, rv), (6, .slice none 0 0), (7, rv), (8, .bool false)]) (by kernel_rfl) ?_
  refine ops_nil (nx_seq (at_seq (at_seq (at_region ?_))))
  refine ops_run2 (l' := [(0, bv), (2, .pointer (some ⟨b1, 0, none⟩)), (3, .int .i64 0), (4, v), (5, rv), (6, .slice none 0 0), (7, rv), (25, .bool true)]) (by kernel_rfl) ?_
  refine ops_nil (nx_seq ?_)
  refine at_ift (by kernel_rfl) ?_
  refine at_exit (ex_seq (ex_past rfl (ex_inv (ex_here ?_))))
  have h23 := h4.keep0 c2
  have h24 := h5.keep0 c2 (by omega)
  exact nx_meet (v, ls, rv, r) (proj_sub [0, 2, 3, 4, 5] (by kernel_rfl)) ⟨(((Chg.refl [] w1).step0 h3 (by omega)).step0 c2 (by omega)), h23, h24, (show ls.length ≤ 110 by first | omega | (simp only [List.length_append, List.length_cons, List.length_nil, List.length_take, List.length_drop, List.length_map]; omega)), (show b = putL ls ++ r by assumption), (show Short ls by assumption), (show ls.length = 110 ∨ ∀ x r', ¬ CutR r x r' by first | exact .inl (by omega) | exact .inr h12)⟩
  refine at_exit (ex_seq (ex_inv (ex_here ?_)))
  exact nx_meet (v, ls, rv, r) (proj_sub [0, 2, 3, 4, 5] (by kernel_rfl)) ⟨((Chg.refl [] w1).step0 h3 (by omega)), h4, h5, (show ls.length ≤ 110 by first | omega | (simp only [List.length_append, List.length_cons, List.length_nil, List.length_take, List.length_drop, List.length_map]; omega)), (show b = putL ls ++ r by assumption), (show Short ls by assumption), (show ls.length = 110 ∨ ∀ x r', ¬ CutR r x r' by first | exact .inl (by omega) | exact .inr trivial)⟩
  rintro ⟨v0, zs, rv0, r0⟩ w6 ⟨h25, h26, h27, h28, h29, h30, h31⟩
  replace h25 : Chg [] (w1.heap.size) w1 w6 := h25
  replace h26 : OwnBB w6 w1.heap.size v0 zs := h26
  replace h27 : Bs w6 lo hi rv0 r0 := h27
  replace h28 : (zs.length ≤ 110) := h28
  replace h29 : (b = putL zs ++ r0) := h29
  replace h30 : (Short zs) := h30
  replace h31 : (zs.length = 110 ∨ ∀ x r', ¬ CutR r0 x r') := h31
  have z9 := h25.size
  have hpre := h29
  have hsx := h30
  have hfin := h31
  have hl110 : zs.length ≤ 110 := h28
  have hv0 := h26.bbs
  refine at_seq (at_seq (at_region ?_))
  refine ops_run1 (l' := [(0, bv), (2, .pointer (some ⟨b1, 0, none⟩)), (3, .int .i64 0), (4, v0), (5, rv0), (31, v0)]) (by kernel_rfl) ?_
  obtain ⟨vs2, lo2, hi2, h32, h33, h34⟩ := id hv0
  refine ops_len (e := 22) (by kernel_rfl) (by kernel_rfl) (by kernel_rfl) (by kernel_rfl) h33 ?_
  refine ops_run2 (l' := [(0, bv), (2, .pointer (some ⟨b1, 0, none⟩)), (3, .int .i64 0), (4, v0), (5, rv0), (34, .bool (decide (((zs.length : Int) : Int) < (7 : Int))))]) (by kernel_rfl) ?_
  by_cases q2 : ((zs.length : Int) : Int) < (7 : Int)
  rw [show (decide (((zs.length : Int) : Int) < (7 : Int))) = true from decide_eq_true q2]
  refine ops_run4 (l' := [(0, bv), (2, .pointer (some ⟨b1, 0, none⟩)), (3, .int .i64 0), (4, v0), (38, .bool true)]) (by kernel_rfl) ?_
  refine ops_nil (nx_seq ?_)
  refine at_ift (by kernel_rfl) ?_
  refine at_seq (at_region ?_)
  refine ops_run1 (l' := [(0, bv), (2, .pointer (some ⟨b1, 0, none⟩)), (3, .int .i64 0), (4, v0), (39, .agg #[.int .i64 0, S [], S [], .slice none 0 0, .int .i64 0, .slice none 0 0])]) (by kernel_rfl) ?_
  have h35 := h1.keep0 h25 (by omega)
  refine ops_storeS (i := 0) (vs := [.int .i64 0, S [], S [], .slice none 0 0, .int .i64 0, .slice none 0 0]) [.int .i64 0, S [], S [], .slice none 0 0, .int .i64 0, .slice none 0 0] (by kernel_rfl) (by kernel_rfl) (by kernel_rfl) (by kernel_rfl) (by kernel_rfl) (by kernel_rfl) h35 (by kernel_rfl) (by kernel_rfl) (fun w7 h36 c6 z10 => ?_)
  have z11 := c6.size
  refine ops_run1 (l' := [(0, bv), (2, .pointer (some ⟨b1, 0, none⟩)), (3, .int .i64 150), (4, v0)]) (by kernel_rfl) ?_
  refine ops_nil (nx_seq ?_)
  refine at_retV (rs := [.cell 2 28, .tmp 3]) (vs := [.agg #[.int .i64 0, S [], S [], .slice none 0 0, .int .i64 0, .slice none 0 0], .int .i64 150]) rfl (ResV.cellS (by kernel_rfl) h36 (by kernel_rfl) (by kernel_rfl) (ResV.tmp (by kernel_rfl) ResV.nil)) ?_
  exact ⟨_, rfl, ((((Chg.refl [] w).step0 c1 (by omega)).step0 h25 (by omega)).step c6 (by omega) (by intro y hy; simp only [List.mem_cons, List.not_mem_nil, or_false, false_or] at hy ⊢; try omega)), .inr ⟨fun m hm => (by have h9 := ref_all hm hsx hpre hfin; have h8 := partsM_len m; have h7 := dec_to hm; rw [h9.1] at h8; have h6 := congrArg List.length h9.2; simp only [List.length_nil] at h6; omega), rfl⟩⟩
  rw [show (decide (((zs.length : Int) : Int) < (7 : Int))) = false from decide_eq_false q2]
  refine ops_run1 (l' := [(0, bv), (2, .pointer (some ⟨b1, 0, none⟩)), (3, .int .i64 0), (4, v0), (34, .bool false), (35, rv0)]) (by kernel_rfl) ?_
  refine ops_len (e := 5) (by kernel_rfl) (by kernel_rfl) (by kernel_rfl) (by kernel_rfl) h27 ?_
  refine ops_run2 (l' := [(0, bv), (2, .pointer (some ⟨b1, 0, none⟩)), (3, .int .i64 0), (4, v0), (38, .bool (decide (((r0.length : Int) : Int) > (0 : Int))))]) (by kernel_rfl) ?_
  refine ops_nil (nx_seq ?_)
  refine at_ifp (((r0.length : Int) : Int) > (0 : Int)) (by kernel_rfl) (fun q3 => ?_) (fun q3 => ?_)
  refine at_seq (at_region ?_)
  refine ops_run1 (l' := [(0, bv), (2, .pointer (some ⟨b1, 0, none⟩)), (3, .int .i64 0), (4, v0), (39, .agg #[.int .i64 0, S [], S [], .slice none 0 0, .int .i64 0, .slice none 0 0])]) (by kernel_rfl) ?_
  have h37 := h1.keep0 h25 (by omega)
  refine ops_storeS (i := 0) (vs := [.int .i64 0, S [], S [], .slice none 0 0, .int .i64 0, .slice none 0 0]) [.int .i64 0, S [], S [], .slice none 0 0, .int .i64 0, .slice none 0 0] (by kernel_rfl) (by kernel_rfl) (by kernel_rfl) (by kernel_rfl) (by kernel_rfl) (by kernel_rfl) h37 (by kernel_rfl) (by kernel_rfl) (fun w8 h38 c7 z12 => ?_)
  have z13 := c7.size
  refine ops_run1 (l' := [(0, bv), (2, .pointer (some ⟨b1, 0, none⟩)), (3, .int .i64 150), (4, v0)]) (by kernel_rfl) ?_
  refine ops_nil (nx_seq ?_)
  refine at_retV (rs := [.cell 2 28, .tmp 3]) (vs := [.agg #[.int .i64 0, S [], S [], .slice none 0 0, .int .i64 0, .slice none 0 0], .int .i64 150]) rfl (ResV.cellS (by kernel_rfl) h38 (by kernel_rfl) (by kernel_rfl) (ResV.tmp (by kernel_rfl) ResV.nil)) ?_
  exact ⟨_, rfl, ((((Chg.refl [] w).step0 c1 (by omega)).step0 h25 (by omega)).step c7 (by omega) (by intro y hy; simp only [List.mem_cons, List.not_mem_nil, or_false, false_or] at hy ⊢; try omega)), .inr ⟨fun m hm => (by have h9 := ref_all hm hsx hpre hfin; have h8 := partsM_len m; have h7 := dec_to hm; rw [h9.1] at h8; have h6 := congrArg List.length h9.2; simp only [List.length_nil] at h6; omega), rfl⟩⟩
  refine at_skip (nx_seq (at_seq ?_))
  have h39 := h1.keep0 h25 (by omega)
  obtain ⟨vs3, lo3, hi3, h40, h41, h42⟩ := id hv0
  refine at_draw (m := 18) (listed := (bm 18 0)) (fun W => Blk W b1 [.int .i64 0, S [], S [], .slice none 0 0, .int .i64 0, .slice none 0 0] 28 ∧ Sl W lo3 hi3 v0 1 zs.length vs3 ∧ AllB W w6.heap.size none vs3 zs ∧ True) (by kernel_rfl) (by kernel_rfl) (by kernel_rfl) (fun w9 c8 z14 _ _ => ?_)
  have z15 := c8.size
  have h43 := h39.keep0 c8 (by omega)
  have h44 := h41.keep0 c8 (by omega)
  have h45 := AllB.keepM h42 c8 (by omega)
  refine ⟨⟨h43, h44, h45, trivial⟩, ?_⟩
  refine any_takes [0] (fuel' := 17) (listed' := (bm 18 1)) (l' := [(0, bv), (2, .pointer (some ⟨b1, 0, none⟩)), (3, .int .i64 0), (4, v0), (40, v0)]) panK_FB (by kernel_rfl) (by kernel_rfl) (by kernel_rfl) ?_
  refine any_idx (q := 1) (listed' := (bm 18 3)) (e := 22) (i := 1) (kd := .i64) 1 panK_FB (by kernel_rfl) rfl (by kernel_rfl) (by kernel_rfl) (by kernel_rfl) (by kernel_rfl) (by kernel_rfl) (by kernel_rfl) (by kernel_rfl) (by kernel_rfl) h44 (by omega) (by first | omega | (simp only [List.length_append, List.length_cons, List.length_nil, List.length_take, List.length_drop, List.length_map]; omega)) (fun a1 h46 => ?_)
  obtain ⟨v5, hv1, lo4, hi4, h47, h48, _⟩ := AllB.get 1 h42 (by first | omega | (simp only [List.length_append, List.length_cons, List.length_nil, List.length_take, List.length_drop, List.length_map]; omega))
  obtain ⟨A1, n1, c9, rfl⟩ := h47.shape
  have z16 := h47.hi_le
  refine any_loadC (i := 2) (listed' := (bm 18 7)) panK_FB (by kernel_rfl) rfl (by kernel_rfl) (by kernel_rfl) (by kernel_rfl) (by kernel_rfl) (by kernel_rfl) (by kernel_rfl) (fun W hW => bb_cellH (h46 W hW.2.1) hv1) ?_
  refine any_toS (i := 3) (b := zs.getD 1 []) (listed' := (bm 18 15)) panK_FB (by kernel_rfl) rfl (by kernel_rfl) (by kernel_rfl) (by kernel_rfl) (by kernel_rfl) (by kernel_rfl) (by kernel_rfl) (by kernel_rfl) (fun W hW => bb_bsH hW.2.2.1 (by first | omega | (simp only [List.length_append, List.length_cons, List.length_nil, List.length_take, List.length_drop, List.length_map]; omega)) hv1) ?_
  refine any_takes [4] (fuel' := 13) (listed' := (bm 18 31)) (l' := [(0, bv), (2, .pointer (some ⟨b1, 0, none⟩)), (3, .int .i64 0), (4, v0), (43, S (zs.getD 1 [])), (44, v0)]) panK_FB (by kernel_rfl) (by kernel_rfl) (by kernel_rfl) ?_
  refine any_idx (q := 5) (listed' := (bm 18 63)) (e := 22) (i := 2) (kd := .i64) 2 panK_FB (by kernel_rfl) rfl (by kernel_rfl) (by kernel_rfl) (by kernel_rfl) (by kernel_rfl) (by kernel_rfl) (by kernel_rfl) (by kernel_rfl) (by kernel_rfl) h44 (by omega) (by first | omega | (simp only [List.length_append, List.length_cons, List.length_nil, List.length_take, List.length_drop, List.length_map]; omega)) (fun a2 h49 => ?_)
  obtain ⟨v6, hv2, lo5, hi5, h50, h51, _⟩ := AllB.get 2 h42 (by first | omega | (simp only [List.length_append, List.length_cons, List.length_nil, List.length_take, List.length_drop, List.length_map]; omega))
  obtain ⟨A2, n2, c10, rfl⟩ := h50.shape
  have z17 := h50.hi_le
  refine any_loadC (i := 6) (listed' := (bm 18 127)) panK_FB (by kernel_rfl) rfl (by kernel_rfl) (by kernel_rfl) (by kernel_rfl) (by kernel_rfl) (by kernel_rfl) (by kernel_rfl) (fun W hW => bb_cellH (h49 W hW.2.1) hv2) ?_
  refine any_toS (i := 7) (b := zs.getD 2 []) (listed' := (bm 18 255)) panK_FB (by kernel_rfl) rfl (by kernel_rfl) (by kernel_rfl) (by kernel_rfl) (by kernel_rfl) (by kernel_rfl) (by kernel_rfl) (by kernel_rfl) (fun W hW => bb_bsH hW.2.2.1 (by first | omega | (simp only [List.length_append, List.length_cons, List.length_nil, List.length_take, List.length_drop, List.length_map]; omega)) hv2) ?_
  refine any_takes [8, 9, 10] (fuel' := 7) (listed' := (bm 18 2047)) (l' := [(0, bv), (2, .pointer (some ⟨b1, 0, none⟩)), (3, .int .i64 0), (4, v0), (43, S (zs.getD 1 [])), (48, .agg #[S (zs.getD 2 []), .slice none 0 0, .int .i64 0]), (49, v0), (50, v0)]) panK_FB (by kernel_rfl) (by kernel_rfl) (by kernel_rfl) ?_
  have h52 := hv0.keep0 c8 (by omega)
  obtain ⟨vs4, lo6, hi6, h53, h54, h55⟩ := id h52
  refine any_len (i := 11) (listed' := (bm 18 4095)) (e := 22) panK_FB (by kernel_rfl) rfl (by kernel_rfl) (by kernel_rfl) (by kernel_rfl) (by kernel_rfl) (by kernel_rfl) (by kernel_rfl) h54 ?_
  refine any_2 12 (bm 18 8191) 16 (bm 18 69631) (by kernel_rfl) rfl (by kernel_rfl) rfl (by kernel_rfl) ?_ ?_
  refine ops_sub_ (a := (zs.length : Int)) (b := 1) (kd := .i64) (by kernel_rfl) (by kernel_rfl) (by kernel_rfl) (by kernel_rfl) (show (-9223372036854775808 : Int) ≤ ((zs.length : Int)) - 1 by omega) (show ((zs.length : Int)) - 1 ≤ (9223372036854775807 : Int) by omega) ?_
  refine ops_nil ?_
  refine nx_any ⟨h43, h44, h45, trivial⟩ ?_
  refine any_idx (q := 13) (listed' := (bm 18 16383)) (e := 22) (i := ((zs.length : Int)) - 1) (kd := .i64) ((zs.length) - 1) panK_FB (by kernel_rfl) rfl (by kernel_rfl) (by kernel_rfl) (by kernel_rfl) (by kernel_rfl) (by kernel_rfl) (by kernel_rfl) (by kernel_rfl) (by kernel_rfl) h44 (by omega) (by first | omega | (simp only [List.length_append, List.length_cons, List.length_nil, List.length_take, List.length_drop, List.length_map]; omega)) (fun a3 h56 => ?_)
  obtain ⟨v7, hv3, lo7, hi7, h57, h58, _⟩ := AllB.get ((zs.length) - 1) h42 (by first | omega | (simp only [List.length_append, List.length_cons, List.length_nil, List.length_take, List.length_drop, List.length_map]; omega))
  obtain ⟨A3, n3, c11, rfl⟩ := h57.shape
  have z18 := h57.hi_le
  refine any_loadC (i := 14) (listed' := (bm 18 32767)) panK_FB (by kernel_rfl) rfl (by kernel_rfl) (by kernel_rfl) (by kernel_rfl) (by kernel_rfl) (by kernel_rfl) (by kernel_rfl) (fun W hW => bb_cellH (h56 W hW.2.1) hv3) ?_
  refine any_takes [15] (fuel' := 2) (listed' := (bm 18 65535)) (l' := [(0, bv), (2, .pointer (some ⟨b1, 0, none⟩)), (3, .int .i64 0), (4, v0), (55, .agg #[.int .i64 0, S (zs.getD 1 []), S (zs.getD 2 []), .slice none 0 0, .int .i64 0, (.slice A3 n3 c11)])]) panK_FB (by kernel_rfl) (by kernel_rfl) (by kernel_rfl) ?_
  refine any_1 16 (bm 18 131071) (by kernel_rfl) rfl (by kernel_rfl) ?_
  refine ops_alloc (z := .agg #[.int .i64 0, S [], S [], .slice none 0 0, .int .i64 0, .slice none 0 0]) (cs := [.int .i64 0, S [], S [], .slice none 0 0, .int .i64 0, .slice none 0 0]) (by kernel_rfl) (by kernel_rfl) (by kernel_rfl) (by kernel_rfl) (fun b2 w10 e2 h59 c12 z19 => ?_)
  have z20 := c12.size
  refine ops_nil ?_
  have h60 := h43.keep0 c12 (by omega)
  have h61 := h44.keep0 c12 (by omega)
  have h62 := AllB.keepM h45 c12 (by omega)
  refine nx_any ⟨h60, h61, h62, trivial⟩ ?_
  refine any_1 17 (bm 18 262143) (by kernel_rfl) rfl (by kernel_rfl) ?_
  have h64 := h57.keep0 c8 (by omega)
  have h65 := h64.keep0 c12 (by omega)
  refine ops_storeS (i := 0) (vs := [.int .i64 0, S (zs.getD 1 []), S (zs.getD 2 []), .slice none 0 0, .int .i64 0, (.slice A3 n3 c11)]) [.int .i64 0, S (zs.getD 1 []), S (zs.getD 2 []), .slice none 0 0, .int .i64 0, (.slice A3 n3 c11)] (by kernel_rfl) (by kernel_rfl) (by kernel_rfl) (by kernel_rfl) (by simp only [List.all_cons, List.all_nil, h65.one, Bool.and_true, Bool.true_and] <;> rfl) (by kernel_rfl) h59 (by kernel_rfl) (by kernel_rfl) (fun w11 h63 c13 z21 => ?_)
  have z22 := c13.size
  refine ops_nil ?_
  have h66 := h60.keep1 c13 (by omega) (by omega)
  have h67 := h61.keep1 c13 (by omega) (by omega)
  have h68 := AllB.keepR h62 c13 (by omega) (by intro y hy; simp only [List.mem_cons, List.not_mem_nil, or_false] at hy; omega)
  refine nx_any ⟨h66, h67, h68, trivial⟩ ?_
  refine any_done (by kernel_rfl) ?_
  refine nx_seq (at_seq (at_region ?_))
  refine ops_run1 (l' := [(0, bv), (2, .pointer (some ⟨b1, 0, none⟩)), (3, .int .i64 0), (4, v0), (9, .pointer (some ⟨b2, 0, none⟩)), (57, v0)]) (by kernel_rfl) ?_
  have h69 := h52.keep0 c12 (by omega)
  have h70 := h69.keepR c13 (by omega) (by intro y hy; simp only [List.mem_cons, List.not_mem_nil, or_false] at hy; omega)
  obtain ⟨vs5, lo8, hi8, h71, h72, h73⟩ := id h70
  refine ops_idx (e := 22) (i := 0) (kd := .i64) 0 (by kernel_rfl) (by kernel_rfl) (by kernel_rfl) (by kernel_rfl) (by kernel_rfl) (by kernel_rfl) h72 (by omega) (by first | omega | (simp only [List.length_append, List.length_cons, List.length_nil, List.length_take, List.length_drop, List.length_map]; omega)) (fun a4 h74 => ?_)
  obtain ⟨v8, lo9, hi9, h75, h76, h77⟩ := bb_cell (j := 0) h74 h73 (by first | omega | (simp only [List.length_append, List.length_cons, List.length_nil, List.length_take, List.length_drop, List.length_map]; omega))
  refine ops_load (by kernel_rfl) (by kernel_rfl) (by kernel_rfl) (by kernel_rfl) h75 ?_
  refine ops_toS (b := zs.getD 0 []) (by kernel_rfl) (by kernel_rfl) (by kernel_rfl) (by kernel_rfl) (by kernel_rfl) h76 ?_
  have hnl := hsx (zs.getD 0 []) (getD_mem (by omega))
  refine ops_callr (by kernel_rfl) (by kernel_rfl) (by kernel_rfl) (number_ok (zs.getD 0 []) (by first | omega | (simp only [List.length_append, List.length_cons, List.length_nil, List.length_take, List.length_drop, List.length_map]; omega)) w11) ?_
  rintro _ w12 ⟨c14, n4, ok1, rfl, h78, h79, h80⟩
  have z23 := c14.size
  have h81 := h78
  refine ops_run4 (l' := [(0, bv), (2, .pointer (some ⟨b1, 0, none⟩)), (3, .int .i64 0), (4, v0), (9, .pointer (some ⟨b2, 0, none⟩)), (62, .int .i64 n4), (64, .pointer (some ⟨b2, 0, none⟩))]) (by kernel_rfl) ?_
  have h82 := h63.keep0 c14 (by omega)
  refine ops_store (i := 0) (v := .int .i64 n4) [.int .i64 n4, S (zs.getD 1 []), S (zs.getD 2 []), .slice none 0 0, .int .i64 0, (.slice A3 n3 c11)] (by kernel_rfl) (by kernel_rfl) (by kernel_rfl) (by kernel_rfl) (by kernel_rfl) (by kernel_rfl) h82 (by kernel_rfl) (by kernel_rfl) (fun w13 h83 c15 z24 => ?_)
  have z25 := c15.size
  refine ops_nil (nx_seq (at_seq (at_region ?_)))
  refine ops_run1 (l' := [(0, bv), (2, .pointer (some ⟨b1, 0, none⟩)), (3, .int .i64 0), (4, v0), (9, .pointer (some ⟨b2, 0, none⟩)), (66, v0)]) (by kernel_rfl) ?_
  have h84 := h70.keep0 c14 (by omega)
  have h85 := h84.keepR c15 (by omega) (by intro y hy; simp only [List.mem_cons, List.not_mem_nil, or_false] at hy; omega)
  obtain ⟨vs6, lo10, hi10, h86, h87, h88⟩ := id h85
  refine ops_idx (e := 22) (i := 3) (kd := .i64) 3 (by kernel_rfl) (by kernel_rfl) (by kernel_rfl) (by kernel_rfl) (by kernel_rfl) (by kernel_rfl) h87 (by omega) (by first | omega | (simp only [List.length_append, List.length_cons, List.length_nil, List.length_take, List.length_drop, List.length_map]; omega)) (fun a5 h89 => ?_)
  obtain ⟨v9, lo11, hi11, h90, h91, h92⟩ := bb_cell (j := 3) h89 h88 (by first | omega | (simp only [List.length_append, List.length_cons, List.length_nil, List.length_take, List.length_drop, List.length_map]; omega))
  refine ops_load (by kernel_rfl) (by kernel_rfl) (by kernel_rfl) (by kernel_rfl) h90 ?_
  refine ops_toS (b := zs.getD 3 []) (by kernel_rfl) (by kernel_rfl) (by kernel_rfl) (by kernel_rfl) (by kernel_rfl) h91 ?_
  have hnl := hsx (zs.getD 3 []) (getD_mem (by omega))
  refine ops_callr (by kernel_rfl) (by kernel_rfl) (by kernel_rfl) (number_ok (zs.getD 3 []) (by first | omega | (simp only [List.length_append, List.length_cons, List.length_nil, List.length_take, List.length_drop, List.length_map]; omega)) w13) ?_
  rintro _ w14 ⟨c16, n5, ok2, rfl, h93, h94, h95⟩
  have z26 := c16.size
  have h96 := h93
  refine ops_run5 (l' := [(0, bv), (2, .pointer (some ⟨b1, 0, none⟩)), (3, .int .i64 0), (4, v0), (9, .pointer (some ⟨b2, 0, none⟩)), (71, .int .i64 n5), (74, .pointer (some ⟨b2, 4, none⟩))]) (by kernel_rfl) ?_
  have h97 := h83.keep0 c16 (by omega)
  refine ops_store (i := 4) (v := .int .i64 n5) [.int .i64 n4, S (zs.getD 1 []), S (zs.getD 2 []), .slice none 0 0, .int .i64 n5, (.slice A3 n3 c11)] (by kernel_rfl) (by kernel_rfl) (by kernel_rfl) (by kernel_rfl) (by kernel_rfl) (by kernel_rfl) h97 (by kernel_rfl) (by kernel_rfl) (fun w15 h98 c17 z27 => ?_)
  have z28 := c17.size
  refine ops_nil (nx_seq (at_seq (at_seq (at_region ?_))))
  refine ops_run2 (l' := [(0, bv), (2, .pointer (some ⟨b1, 0, none⟩)), (3, .int .i64 0), (9, .pointer (some ⟨b2, 0, none⟩)), (75, v0), (76, v0)]) (by kernel_rfl) ?_
  have h99 := h85.keep0 c16 (by omega)
  have h100 := h99.keepR c17 (by omega) (by intro y hy; simp only [List.mem_cons, List.not_mem_nil, or_false] at hy; omega)
  obtain ⟨vs7, lo12, hi12, h101, h102, h103⟩ := id h100
  refine ops_len (e := 22) (by kernel_rfl) (by kernel_rfl) (by kernel_rfl) (by kernel_rfl) h102 ?_
  refine ops_sub_ (a := (zs.length : Int)) (b := 1) (kd := .i64) (by kernel_rfl) (by kernel_rfl) (by kernel_rfl) (by kernel_rfl) (show (-9223372036854775808 : Int) ≤ ((zs.length : Int)) - 1 by omega) (show ((zs.length : Int)) - 1 ≤ (9223372036854775807 : Int) by omega) ?_
  obtain ⟨vs8, lo13, hi13, h104, h105, h106⟩ := id h100
  refine ops_part (e := 22) (i := 5) (kd := .i64) (i' := ((zs.length : Int)) - 1) (kd' := .i64) 5 ((zs.length) - 1) (by kernel_rfl) (by kernel_rfl) (by kernel_rfl) (by kernel_rfl) (by kernel_rfl) (by kernel_rfl) (by kernel_rfl) h105 (by first | omega | (simp only [List.length_append, List.length_cons, List.length_nil, List.length_take, List.length_drop, List.length_map]; omega)) (by first | omega | (simp only [List.length_append, List.length_cons, List.length_nil, List.length_take, List.length_drop, List.length_map]; omega)) (by first | omega | (simp only [List.length_append, List.length_cons, List.length_nil, List.length_take, List.length_drop, List.length_map]; omega)) (by first | omega | (simp only [List.length_append, List.length_cons, List.length_nil, List.length_take, List.length_drop, List.length_map]; omega)) (fun v10 h107 => ?_)
  have h108 := bb_part h107 (by first | omega | (simp only [List.length_append, List.length_cons, List.length_nil, List.length_take, List.length_drop, List.length_map]; omega)) h104 h106
  obtain ⟨D, hD⟩ : ∃ D, D = (zs.drop 5).take (((zs.length) - 1) - 5) := ⟨_, rfl⟩
  rw [← hD] at h108
  have hDl : D.length ≤ 110 := by rw [hD, List.length_take, List.length_drop]; omega
  obtain ⟨vs9, lo14, hi14, h109, h110, h111⟩ := id h108
  refine ops_len (e := 22) (by kernel_rfl) (by kernel_rfl) (by kernel_rfl) (by kernel_rfl) h110 ?_
  refine ops_run1 (l' := [(0, bv), (2, .pointer (some ⟨b1, 0, none⟩)), (3, .int .i64 0), (9, .pointer (some ⟨b2, 0, none⟩)), (79, v10), (80, .int .i64 ((D.length : Int))), (81, .int .i64 0)]) (by kernel_rfl) ?_
  refine ops_nil (nx_seq (at_block ?_))
  refine at_loop (X := Value × (List Bytes) × Nat) (fun x_ => [(0, bv), (2, .pointer (some ⟨b1, 0, none⟩)), (3, .int .i64 0), (9, .pointer (some ⟨b2, 0, none⟩)), (79, v10), (80, .int .i64 ((D.length : Int))), (81, .int .i64 ((x_.2.2 : Int)))]) (fun x_ W3 => Chg [b2] (w15.heap.size) w15 W3 ∧ Blk W3 b2 [.int .i64 n4, S (zs.getD 1 []), S (zs.getD 2 []), x_.1, .int .i64 n5, (.slice A3 n3 c11)] 28 ∧ OwnS W3 w15.heap.size x_.1 x_.2.1 ∧ (x_.2.2 ≤ D.length) ∧ (x_.2.1 = D.take x_.2.2)) (fun x_ => D.length - x_.2.2) (.slice none 0 0, [], 0) (proj_sub [0, 2, 3, 9, 79, 80, 81] (by kernel_rfl)) ⟨(Chg.refl [b2] w15), h98, Own.nil _ _ _ (by omega), (show 0 ≤ D.length by first | omega | (simp only [List.length_append, List.length_cons, List.length_nil, List.length_take, List.length_drop, List.length_map]; omega)), (show [] = D.take 0 by rfl)⟩ ?_
  rintro ⟨tv, ts, k⟩ w16 ⟨h112, h113, h114, h115, h116⟩
  replace h112 : Chg [b2] (w15.heap.size) w15 w16 := h112
  replace h113 : Blk w16 b2 [.int .i64 n4, S (zs.getD 1 []), S (zs.getD 2 []), tv, .int .i64 n5, (.slice A3 n3 c11)] 28 := h113
  replace h114 : OwnS w16 w15.heap.size tv ts := h114
  replace h115 : (k ≤ D.length) := h115
  replace h116 : (ts = D.take k) := h116
  have z29 := h112.size
  have z30 := h113.lt
  have hts := h116
  have htsl : ts.length ≤ k := by rw [hts, List.length_take]; omega
  refine at_seq (at_region ?_)
  refine ops_run1 (l' := [(0, bv), (2, .pointer (some ⟨b1, 0, none⟩)), (3, .int .i64 0), (9, .pointer (some ⟨b2, 0, none⟩)), (79, v10), (80, .int .i64 ((D.length : Int))), (81, .int .i64 ((k : Int))), (82, .bool (decide (((k : Int) : Int) < ((D.length : Int) : Int))))]) (by kernel_rfl) ?_
  refine ops_nil (nx_seq (at_seq ?_))
  refine at_ifp (((k : Int) : Int) < ((D.length : Int) : Int)) (by kernel_rfl) (fun q4 => ?_) (fun q4 => ?_)
  refine at_skip (nx_seq (at_seq (at_block (at_seq (at_region ?_)))))
  have h117 := h108.keepR h112 (by omega) (by intro y hy; simp only [List.mem_cons, List.not_mem_nil, or_false] at hy; omega)
  obtain ⟨vs10, lo15, hi15, h118, h119, h120⟩ := id h117
  refine ops_idx (e := 22) (i := (k : Int)) (kd := .i64) k (by kernel_rfl) (by kernel_rfl) (by kernel_rfl) (by kernel_rfl) (by kernel_rfl) (by kernel_rfl) h119 (by omega) (by first | omega | (simp only [List.length_append, List.length_cons, List.length_nil, List.length_take, List.length_drop, List.length_map]; omega)) (fun a6 h121 => ?_)
  obtain ⟨v11, lo16, hi16, h122, h123, h124⟩ := bb_cell (j := k) h121 h120 (by first | omega | (simp only [List.length_append, List.length_cons, List.length_nil, List.length_take, List.length_drop, List.length_map]; omega))
  refine ops_load (by kernel_rfl) (by kernel_rfl) (by kernel_rfl) (by kernel_rfl) h122 ?_
  refine ops_run1 (l' := [(0, bv), (2, .pointer (some ⟨b1, 0, none⟩)), (3, .int .i64 0), (9, .pointer (some ⟨b2, 0, none⟩)), (11, v11), (79, v10), (80, .int .i64 ((D.length : Int))), (81, .int .i64 ((k : Int)))]) (by kernel_rfl) ?_
  refine ops_nil (nx_seq (at_region ?_))
  refine ops_run2 (l' := [(0, bv), (2, .pointer (some ⟨b1, 0, none⟩)), (3, .int .i64 0), (9, .pointer (some ⟨b2, 0, none⟩)), (11, v11), (79, v10), (80, .int .i64 ((D.length : Int))), (81, .int .i64 ((k : Int))), (86, .pointer (some ⟨b2, 3, none⟩))]) (by kernel_rfl) ?_
  refine ops_loadB (i := 3) (v := tv) (by kernel_rfl) (by kernel_rfl) (by kernel_rfl) (by kernel_rfl) h113 (by kernel_rfl) ?_
  refine ops_run1 (l' := [(0, bv), (2, .pointer (some ⟨b1, 0, none⟩)), (3, .int .i64 0), (9, .pointer (some ⟨b2, 0, none⟩)), (79, v10), (80, .int .i64 ((D.length : Int))), (81, .int .i64 ((k : Int))), (87, tv), (88, v11)]) (by kernel_rfl) ?_
  refine ops_toS (b := D.getD k []) (by kernel_rfl) (by kernel_rfl) (by kernel_rfl) (by kernel_rfl) (by kernel_rfl) h123 ?_
  refine ops_lit (e := 9) (sz := 1) [S (D.getD k [])] (by kernel_rfl) (by kernel_rfl) (by kernel_rfl) rfl (by decide) (fun v12 w17 h125 c18 z31 => ?_)
  have z32 := c18.size
  replace h125 : OwnS w17 (w16.heap.size) v12 [D.getD k []] := h125.1
  have h126 := h114.keep c18 (by omega) (fun _ _ _ => by simp)
  refine ops_appendS (e := 9) (by_ := 16) (l1 := ts) (l2 := [D.getD k []]) (by kernel_rfl) (by kernel_rfl) (by kernel_rfl) (by kernel_rfl) (by kernel_rfl) (by kernel_rfl) (by kernel_rfl) h126 h125.sl (by first | omega | (simp only [List.length_append, List.length_cons, List.length_nil, List.length_take, List.length_drop, List.length_map]; omega)) (by first | omega | (simp only [List.length_append, List.length_cons, List.length_nil, List.length_take, List.length_drop, List.length_map]; omega)) (fun v13 w18 h127 c19 c20 => ?_)
  have z33 := c19.size
  refine ops_run2 (l' := [(0, bv), (2, .pointer (some ⟨b1, 0, none⟩)), (3, .int .i64 0), (9, .pointer (some ⟨b2, 0, none⟩)), (79, v10), (80, .int .i64 ((D.length : Int))), (81, .int .i64 ((k : Int))), (91, v13), (93, .pointer (some ⟨b2, 3, none⟩))]) (by kernel_rfl) ?_
  have h128 := h113.keep0 c18 (by omega)
  have h129 := h128.keep0 c19 (by omega)
  refine ops_store (i := 3) (v := v13) [.int .i64 n4, S (zs.getD 1 []), S (zs.getD 2 []), v13, .int .i64 n5, (.slice A3 n3 c11)] (by kernel_rfl) (by kernel_rfl) (by kernel_rfl) (by kernel_rfl) h127.sl.one (by kernel_rfl) h129 (by kernel_rfl) (by kernel_rfl) (fun w19 h130 c21 z34 => ?_)
  have z35 := c21.size
  refine ops_nil (nx_blk (nx_seq (at_region ?_)))
  refine ops_add (a := (k : Int)) (b := 1) (kd := .i64) (by kernel_rfl) (by kernel_rfl) (by kernel_rfl) (by kernel_rfl) (show (-9223372036854775808 : Int) ≤ ((k : Int)) + 1 by omega) (show ((k : Int)) + 1 ≤ (9223372036854775807 : Int) by omega) ?_
  refine ops_run1 (l' := [(0, bv), (2, .pointer (some ⟨b1, 0, none⟩)), (3, .int .i64 0), (9, .pointer (some ⟨b2, 0, none⟩)), (79, v10), (80, .int .i64 ((D.length : Int))), (81, .int .i64 (((k : Int)) + 1))]) (by kernel_rfl) ?_
  refine ops_nil ?_
  have h131 := h127.keep c21 (by omega) (fun b _ _ => by simp only [List.mem_cons, List.not_mem_nil, or_false, not_or]; omega)
  refine nx_round (v13, ts ++ [D.getD k []], (k) + 1) (proj_sub [0, 2, 3, 9, 79, 80, 81] (by kernel_rfl)) ⟨(((((Chg.refl [b2] w15).step h112 (by omega) (by intro y hy; simp only [List.mem_cons, List.not_mem_nil, or_false, false_or] at hy ⊢; try omega)).step0 c18 (by omega)).step0 c19 (by omega)).step c21 (by omega) (by intro y hy; simp only [List.mem_cons, List.not_mem_nil, or_false, false_or] at hy ⊢; try omega)), h130, h131, (show ((k) + 1) ≤ D.length by first | omega | (simp only [List.length_append, List.length_cons, List.length_nil, List.length_take, List.length_drop, List.length_map]; omega)), (show (ts ++ [D.getD k []]) = D.take ((k) + 1) by rw [hts]; exact take_snoc1 (by omega))⟩ (show D.length - ((k) + 1) < D.length - k by omega)
  refine at_exit (ex_seq (ex_inv (ex_here (nx_seq (at_seq (at_region ?_))))))
  refine ops_loadS (i := 0) (vs := [.int .i64 n4, S (zs.getD 1 []), S (zs.getD 2 []), tv, .int .i64 n5, (.slice A3 n3 c11)]) 6 (by kernel_rfl) (by kernel_rfl) (by kernel_rfl) (by kernel_rfl) (by kernel_rfl) h113 (by kernel_rfl) (by kernel_rfl) ?_
  have h132 := (by first | exact h65.keep1 c13 (by omega) (by omega) | exact bs_apart h65 c13 h59 (by simp) (by omega))
  have h133 := h132.keep0 c14 (by omega)
  have h134 := (by first | exact h133.keep1 c15 (by omega) (by omega) | exact bs_apart h133 c15 h82 (by simp) (by omega))
  have h135 := h134.keep0 c16 (by omega)
  have h136 := (by first | exact h135.keep1 c17 (by omega) (by omega) | exact bs_apart h135 c17 h97 (by simp) (by omega))
  have h137 := h136.keep1 h112 (by omega) (by omega)
  obtain ⟨mm, hmm⟩ : ∃ mm, mm = (⟨n4, zs.getD 1 [], zs.getD 2 [], ts, n5, zs.getD ((zs.length) - 1) []⟩ : Msg) := ⟨_, rfl⟩
  have h140 := hg.keep0 c1 (by omega)
  have h141 := h140.keep0 h25 (by omega)
  have h142 := h141.keep0 c8 (by omega)
  have h143 := h142.keep0 c12 (by omega)
  have h144 := h143.keep c13 (by omega) (by intro y hy; simp only [List.mem_cons, List.not_mem_nil, or_false]; omega)
  have h145 := h144.keep0 c14 (by omega)
  have h146 := h145.keep c15 (by omega) (by intro y hy; simp only [List.mem_cons, List.not_mem_nil, or_false]; omega)
  have h147 := h146.keep0 c16 (by omega)
  have h148 := h147.keep c17 (by omega) (by intro y hy; simp only [List.mem_cons, List.not_mem_nil, or_false]; omega)
  have h149 := h148.keep h112 (by omega) (by intro y hy; simp only [List.mem_cons, List.not_mem_nil, or_false]; omega)
  refine ops_callr (by kernel_rfl) (by kernel_rfl) (by kernel_rfl) (rEncode_ok (⟨n4, zs.getD 1 [], zs.getD 2 [], ts, n5, zs.getD ((zs.length) - 1) []⟩ : Msg) h114.sl h137 (show (zs.getD 2 []).length < 4294967281 by have := hsx (zs.getD 2 []) (getD_mem (by omega)); omega) (fun s hs => (by have := hsx s (by have h9 := hts ▸ hs; have h8 := List.mem_of_mem_take h9; rw [hD] at h8; exact List.mem_of_mem_drop (List.mem_of_mem_take h8)); omega)) (show (zs.getD 1 []).length < 4294967281 by have := hsx (zs.getD 1 []) (getD_mem (by omega)); omega) (show n4 ≤ 9223372036854775807 by omega) (show n5 ≤ 9223372036854775807 by omega) h149) ?_
  rintro _ w20 ⟨c22, (⟨h138, v14, rfl, h139⟩ | ⟨h138, rfl⟩)⟩
  have z36 := c22.size
  rw [← hmm] at h138 h139
  refine ops_run5 (l' := [(0, bv), (2, .pointer (some ⟨b1, 0, none⟩)), (3, .int .i64 0), (9, .pointer (some ⟨b2, 0, none⟩)), (12, v14), (13, .int .i64 0)]) (by kernel_rfl) ?_
  refine ops_nil (nx_seq (at_seq (at_seq (at_region ?_))))
  refine ops_run4 (l' := [(0, bv), (2, .pointer (some ⟨b1, 0, none⟩)), (3, .int .i64 0), (9, .pointer (some ⟨b2, 0, none⟩)), (102, .bool false), (103, v14)]) (by kernel_rfl) ?_
  refine ops_toS (b := putL (partsM mm)) (by kernel_rfl) (by kernel_rfl) (by kernel_rfl) (by kernel_rfl) (by kernel_rfl) h139 ?_
  refine ops_run1 (l' := [(2, .pointer (some ⟨b1, 0, none⟩)), (3, .int .i64 0), (9, .pointer (some ⟨b2, 0, none⟩)), (102, .bool false), (104, S (putL (partsM mm))), (105, bv)]) (by kernel_rfl) ?_
  have h150 := hb.keep0 c1 (by omega)
  have h151 := h150.keep0 h25 (by omega)
  have h152 := h151.keep0 c8 (by omega)
  have h153 := h152.keep0 c12 (by omega)
  have h154 := h153.keep1 c13 (by omega) (by omega)
  have h155 := h154.keep0 c14 (by omega)
  have h156 := h155.keep1 c15 (by omega) (by omega)
  have h157 := h156.keep0 c16 (by omega)
  have h158 := h157.keep1 c17 (by omega) (by omega)
  have h159 := h158.keep1 h112 (by omega) (by omega)
  have h160 := h159.keep0 c22 (by omega)
  refine ops_toS (b := b) (by kernel_rfl) (by kernel_rfl) (by kernel_rfl) (by kernel_rfl) (by kernel_rfl) h160 ?_
  refine ops_neS (a := putL (partsM mm)) (b := b) (by kernel_rfl) (by kernel_rfl) (by kernel_rfl) (by kernel_rfl) ?_
  refine ops_run1 (l' := [(2, .pointer (some ⟨b1, 0, none⟩)), (3, .int .i64 0), (9, .pointer (some ⟨b2, 0, none⟩)), (108, .bool (decide ((putL (partsM mm) : Bytes) ≠ b)))]) (by kernel_rfl) ?_
  refine ops_nil (nx_seq ?_)
  refine at_ifp ((putL (partsM mm) : Bytes) ≠ b) (by kernel_rfl) (fun q5 => ?_) (fun q5 => ?_)
  refine at_seq (at_region ?_)
  refine ops_run1 (l' := [(2, .pointer (some ⟨b1, 0, none⟩)), (3, .int .i64 0), (9, .pointer (some ⟨b2, 0, none⟩)), (109, .agg #[.int .i64 0, S [], S [], .slice none 0 0, .int .i64 0, .slice none 0 0])]) (by kernel_rfl) ?_
  have h161 := h66.keep0 c14 (by omega)
  have h162 := h161.keep1 c15 (by omega) (by omega)
  have h163 := h162.keep0 c16 (by omega)
  have h164 := h163.keep1 c17 (by omega) (by omega)
  have h165 := h164.keep1 h112 (by omega) (by omega)
  have h166 := h165.keep0 c22 (by omega)
  refine ops_storeS (i := 0) (vs := [.int .i64 0, S [], S [], .slice none 0 0, .int .i64 0, .slice none 0 0]) [.int .i64 0, S [], S [], .slice none 0 0, .int .i64 0, .slice none 0 0] (by kernel_rfl) (by kernel_rfl) (by kernel_rfl) (by kernel_rfl) (by kernel_rfl) (by kernel_rfl) h166 (by kernel_rfl) (by kernel_rfl) (fun w21 h167 c23 z37 => ?_)
  have z38 := c23.size
  refine ops_run1 (l' := [(2, .pointer (some ⟨b1, 0, none⟩)), (3, .int .i64 150), (9, .pointer (some ⟨b2, 0, none⟩))]) (by kernel_rfl) ?_
  refine ops_nil (nx_seq ?_)
  refine at_retV (rs := [.cell 2 28, .tmp 3]) (vs := [.agg #[.int .i64 0, S [], S [], .slice none 0 0, .int .i64 0, .slice none 0 0], .int .i64 150]) rfl (ResV.cellS (by kernel_rfl) h167 (by kernel_rfl) (by kernel_rfl) (ResV.tmp (by kernel_rfl) ResV.nil)) ?_
  have htsD : ts = D := by rw [hts, List.take_of_length_le (by omega)]
  exact ⟨_, rfl, (((((((((((((Chg.refl [] w).step0 c1 (by omega)).step0 h25 (by omega)).step0 c8 (by omega)).step0 c12 (by omega)).step c13 (by omega) (by intro y hy; simp only [List.mem_cons, List.not_mem_nil, or_false, false_or] at hy ⊢; try omega)).step0 c14 (by omega)).step c15 (by omega) (by intro y hy; simp only [List.mem_cons, List.not_mem_nil, or_false, false_or] at hy ⊢; try omega)).step0 c16 (by omega)).step c17 (by omega) (by intro y hy; simp only [List.mem_cons, List.not_mem_nil, or_false, false_or] at hy ⊢; try omega)).step h112 (by omega) (by intro y hy; simp only [List.mem_cons, List.not_mem_nil, or_false, false_or] at hy ⊢; try omega)).step0 c22 (by omega)).step c23 (by omega) (by intro y hy; simp only [List.mem_cons, List.not_mem_nil, or_false, false_or] at hy ⊢; try omega)), .inr ⟨fun m hm => (by have h9 := ref_all hm hsx hpre hfin; have h8 := ref_msg hm h9.1 h79 h80 h94 h95 rfl; rw [← hD, ← htsD, ← hmm] at h8; subst h8; first | exact h138 hm.1.1 | exact q5 hm.1.2.symm), rfl⟩⟩
  refine at_skip (nx_seq (at_seq (at_region ?_)))
  have h168 := h113.keep0 c22 (by omega)
  refine ops_loadS (i := 0) (vs := [.int .i64 n4, S (zs.getD 1 []), S (zs.getD 2 []), tv, .int .i64 n5, (.slice A3 n3 c11)]) 6 (by kernel_rfl) (by kernel_rfl) (by kernel_rfl) (by kernel_rfl) (by kernel_rfl) h168 (by kernel_rfl) (by kernel_rfl) ?_
  have h169 := h66.keep0 c14 (by omega)
  have h170 := h169.keep1 c15 (by omega) (by omega)
  have h171 := h170.keep0 c16 (by omega)
  have h172 := h171.keep1 c17 (by omega) (by omega)
  have h173 := h172.keep1 h112 (by omega) (by omega)
  have h174 := h173.keep0 c22 (by omega)
  have h176 := h114.keep c22 (by omega) (fun _ _ _ => by simp)
  have h177 := h137.keep0 c22 (by omega)
  refine ops_storeS (i := 0) (vs := [.int .i64 n4, S (zs.getD 1 []), S (zs.getD 2 []), tv, .int .i64 n5, (.slice A3 n3 c11)]) [.int .i64 n4, S (zs.getD 1 []), S (zs.getD 2 []), tv, .int .i64 n5, (.slice A3 n3 c11)] (by kernel_rfl) (by kernel_rfl) (by kernel_rfl) (by kernel_rfl) (by simp only [List.all_cons, List.all_nil, h176.sl.one, h177.one, Bool.and_true, Bool.true_and] <;> rfl) (by kernel_rfl) h174 (by kernel_rfl) (by kernel_rfl) (fun w22 h175 c24 z39 => ?_)
  have z40 := c24.size
  refine ops_run1 (l' := [(2, .pointer (some ⟨b1, 0, none⟩)), (3, .int .i64 0)]) (by kernel_rfl) ?_
  refine ops_nil (nx_seq ?_)
  refine at_retV (rs := [.cell 2 28, .tmp 3]) (vs := [.agg #[.int .i64 n4, S (zs.getD 1 []), S (zs.getD 2 []), tv, .int .i64 n5, (.slice A3 n3 c11)], .int .i64 0]) rfl (ResV.cellS (by kernel_rfl) h175 (by kernel_rfl) (by kernel_rfl) (ResV.tmp (by kernel_rfl) ResV.nil)) ?_
  have h178 := h176.keep c24 (by omega) (fun b _ _ => by simp only [List.mem_cons, List.not_mem_nil, or_false, not_or]; omega)
  have h179 := (by first | exact h177.keep1 c24 (by omega) (by omega) | exact bs_apart h177 c24 h174 (by simp) (by omega))
  exact ⟨_, rfl, (((((((((((((Chg.refl [] w).step0 c1 (by omega)).step0 h25 (by omega)).step0 c8 (by omega)).step0 c12 (by omega)).step c13 (by omega) (by intro y hy; simp only [List.mem_cons, List.not_mem_nil, or_false, false_or] at hy ⊢; try omega)).step0 c14 (by omega)).step c15 (by omega) (by intro y hy; simp only [List.mem_cons, List.not_mem_nil, or_false, false_or] at hy ⊢; try omega)).step0 c16 (by omega)).step c17 (by omega) (by intro y hy; simp only [List.mem_cons, List.not_mem_nil, or_false, false_or] at hy ⊢; try omega)).step h112 (by omega) (by intro y hy; simp only [List.mem_cons, List.not_mem_nil, or_false, false_or] at hy ⊢; try omega)).step0 c22 (by omega)).step c24 (by omega) (by intro y hy; simp only [List.mem_cons, List.not_mem_nil, or_false, false_or] at hy ⊢; try omega)), .inl ⟨mm, tv, (.slice A3 n3 c11), ⟨⟨h138, Eq.symm (Decidable.of_not_not q5)⟩, by rw [hmm]; show n5 ≤ _; omega⟩, by rw [hmm]; rfl, by rw [hmm]; exact (h178.sl).wide (by omega) (by omega) (Nat.le_refl _), by rw [hmm]; exact ⟨_, _, h179⟩⟩⟩
  have z41 := c22.size
  rw [← hmm] at h138
  refine ops_run5 (l' := [(0, bv), (2, .pointer (some ⟨b1, 0, none⟩)), (3, .int .i64 0), (9, .pointer (some ⟨b2, 0, none⟩)), (12, .slice none 0 0), (13, .int .i64 150)]) (by kernel_rfl) ?_
  refine ops_nil (nx_seq (at_seq (at_seq (at_region ?_))))
  refine ops_run9 (l' := [(2, .pointer (some ⟨b1, 0, none⟩)), (3, .int .i64 0), (9, .pointer (some ⟨b2, 0, none⟩)), (108, .bool true)]) (by kernel_rfl) ?_
  refine ops_nil (nx_seq ?_)
  refine at_ift (by kernel_rfl) ?_
  refine at_seq (at_region ?_)
  refine ops_run1 (l' := [(2, .pointer (some ⟨b1, 0, none⟩)), (3, .int .i64 0), (9, .pointer (some ⟨b2, 0, none⟩)), (109, .agg #[.int .i64 0, S [], S [], .slice none 0 0, .int .i64 0, .slice none 0 0])]) (by kernel_rfl) ?_
  have h180 := h66.keep0 c14 (by omega)
  have h181 := h180.keep1 c15 (by omega) (by omega)
  have h182 := h181.keep0 c16 (by omega)
  have h183 := h182.keep1 c17 (by omega) (by omega)
  have h184 := h183.keep1 h112 (by omega) (by omega)
  have h185 := h184.keep0 c22 (by omega)
  refine ops_storeS (i := 0) (vs := [.int .i64 0, S [], S [], .slice none 0 0, .int .i64 0, .slice none 0 0]) [.int .i64 0, S [], S [], .slice none 0 0, .int .i64 0, .slice none 0 0] (by kernel_rfl) (by kernel_rfl) (by kernel_rfl) (by kernel_rfl) (by kernel_rfl) (by kernel_rfl) h185 (by kernel_rfl) (by kernel_rfl) (fun w23 h186 c25 z42 => ?_)
  have z43 := c25.size
  refine ops_run1 (l' := [(2, .pointer (some ⟨b1, 0, none⟩)), (3, .int .i64 150), (9, .pointer (some ⟨b2, 0, none⟩))]) (by kernel_rfl) ?_
  refine ops_nil (nx_seq ?_)
  refine at_retV (rs := [.cell 2 28, .tmp 3]) (vs := [.agg #[.int .i64 0, S [], S [], .slice none 0 0, .int .i64 0, .slice none 0 0], .int .i64 150]) rfl (ResV.cellS (by kernel_rfl) h186 (by kernel_rfl) (by kernel_rfl) (ResV.tmp (by kernel_rfl) ResV.nil)) ?_
  have htsD : ts = D := by rw [hts, List.take_of_length_le (by omega)]
  exact ⟨_, rfl, (((((((((((((Chg.refl [] w).step0 c1 (by omega)).step0 h25 (by omega)).step0 c8 (by omega)).step0 c12 (by omega)).step c13 (by omega) (by intro y hy; simp only [List.mem_cons, List.not_mem_nil, or_false, false_or] at hy ⊢; try omega)).step0 c14 (by omega)).step c15 (by omega) (by intro y hy; simp only [List.mem_cons, List.not_mem_nil, or_false, false_or] at hy ⊢; try omega)).step0 c16 (by omega)).step c17 (by omega) (by intro y hy; simp only [List.mem_cons, List.not_mem_nil, or_false, false_or] at hy ⊢; try omega)).step h112 (by omega) (by intro y hy; simp only [List.mem_cons, List.not_mem_nil, or_false, false_or] at hy ⊢; try omega)).step0 c22 (by omega)).step c25 (by omega) (by intro y hy; simp only [List.mem_cons, List.not_mem_nil, or_false, false_or] at hy ⊢; try omega)), .inr ⟨fun m hm => (by have h9 := ref_all hm hsx hpre hfin; have h8 := ref_msg hm h9.1 h79 h80 h94 h95 rfl; rw [← hD, ← htsD, ← hmm] at h8; subst h8; first | exact h138 hm.1.1 | exact q4 hm.1.2.symm), rfl⟩⟩
  refine ops_alloc (z := .agg #[.int .i64 0, S [], S [], .slice none 0 0, .int .i64 0, .slice none 0 0]) (cs := [.int .i64 0, S [], S [], .slice none 0 0, .int .i64 0, .slice none 0 0]) (by kernel_rfl) (by kernel_rfl) (by kernel_rfl) (by kernel_rfl) (fun b3 w24 e3 h187 c26 z44 => ?_)
  have z45 := c26.size
  refine ops_nil ?_
  have h188 := h43.keep0 c26 (by omega)
  have h189 := h44.keep0 c26 (by omega)
  have h190 := AllB.keepM h45 c26 (by omega)
  refine nx_any ⟨h188, h189, h190, trivial⟩ ?_
  refine any_1 12 (bm 18 73727) (by kernel_rfl) rfl (by kernel_rfl) ?_
  refine ops_sub_ (a := (zs.length : Int)) (b := 1) (kd := .i64) (by kernel_rfl) (by kernel_rfl) (by kernel_rfl) (by kernel_rfl) (show (-9223372036854775808 : Int) ≤ ((zs.length : Int)) - 1 by omega) (show ((zs.length : Int)) - 1 ≤ (9223372036854775807 : Int) by omega) ?_
  refine ops_nil ?_
  refine nx_any ⟨h188, h189, h190, trivial⟩ ?_
  refine any_idx (q := 13) (listed' := (bm 18 81919)) (e := 22) (i := ((zs.length : Int)) - 1) (kd := .i64) ((zs.length) - 1) panK_FB (by kernel_rfl) rfl (by kernel_rfl) (by kernel_rfl) (by kernel_rfl) (by kernel_rfl) (by kernel_rfl) (by kernel_rfl) (by kernel_rfl) (by kernel_rfl) h189 (by omega) (by first | omega | (simp only [List.length_append, List.length_cons, List.length_nil, List.length_take, List.length_drop, List.length_map]; omega)) (fun a7 h191 => ?_)
  obtain ⟨v15, hv4, lo17, hi17, h192, h193, _⟩ := AllB.get ((zs.length) - 1) h42 (by first | omega | (simp only [List.length_append, List.length_cons, List.length_nil, List.length_take, List.length_drop, List.length_map]; omega))
  obtain ⟨A4, n6, c27, rfl⟩ := h192.shape
  have z46 := h192.hi_le
  refine any_loadC (i := 14) (listed' := (bm 18 98303)) panK_FB (by kernel_rfl) rfl (by kernel_rfl) (by kernel_rfl) (by kernel_rfl) (by kernel_rfl) (by kernel_rfl) (by kernel_rfl) (fun W hW => bb_cellH (h191 W hW.2.1) hv4) ?_
  refine any_takes [15] (fuel' := 1) (listed' := (bm 18 131071)) (l' := [(0, bv), (2, .pointer (some ⟨b1, 0, none⟩)), (3, .int .i64 0), (4, v0), (9, .pointer (some ⟨b3, 0, none⟩)), (55, .agg #[.int .i64 0, S (zs.getD 1 []), S (zs.getD 2 []), .slice none 0 0, .int .i64 0, (.slice A4 n6 c27)])]) panK_FB (by kernel_rfl) (by kernel_rfl) (by kernel_rfl) ?_
  refine any_1 17 (bm 18 262143) (by kernel_rfl) rfl (by kernel_rfl) ?_
  have h195 := h192.keep0 c8 (by omega)
  have h196 := h195.keep0 c26 (by omega)
  refine ops_storeS (i := 0) (vs := [.int .i64 0, S (zs.getD 1 []), S (zs.getD 2 []), .slice none 0 0, .int .i64 0, (.slice A4 n6 c27)]) [.int .i64 0, S (zs.getD 1 []), S (zs.getD 2 []), .slice none 0 0, .int .i64 0, (.slice A4 n6 c27)] (by kernel_rfl) (by kernel_rfl) (by kernel_rfl) (by kernel_rfl) (by simp only [List.all_cons, List.all_nil, h196.one, Bool.and_true, Bool.true_and] <;> rfl) (by kernel_rfl) h187 (by kernel_rfl) (by kernel_rfl) (fun w25 h194 c28 z47 => ?_)
  have z48 := c28.size
  refine ops_nil ?_
  have h197 := h188.keep1 c28 (by omega) (by omega)
  have h198 := h189.keep1 c28 (by omega) (by omega)
  have h199 := AllB.keepR h190 c28 (by omega) (by intro y hy; simp only [List.mem_cons, List.not_mem_nil, or_false] at hy; omega)
  refine nx_any ⟨h197, h198, h199, trivial⟩ ?_
  refine any_done (by kernel_rfl) ?_
  refine nx_seq (at_seq (at_region ?_))
  refine ops_run1 (l' := [(0, bv), (2, .pointer (some ⟨b1, 0, none⟩)), (3, .int .i64 0), (4, v0), (9, .pointer (some ⟨b3, 0, none⟩)), (57, v0)]) (by kernel_rfl) ?_
  have h200 := h52.keep0 c26 (by omega)
  have h201 := h200.keepR c28 (by omega) (by intro y hy; simp only [List.mem_cons, List.not_mem_nil, or_false] at hy; omega)
  obtain ⟨vs11, lo18, hi18, h202, h203, h204⟩ := id h201
  refine ops_idx (e := 22) (i := 0) (kd := .i64) 0 (by kernel_rfl) (by kernel_rfl) (by kernel_rfl) (by kernel_rfl) (by kernel_rfl) (by kernel_rfl) h203 (by omega) (by first | omega | (simp only [List.length_append, List.length_cons, List.length_nil, List.length_take, List.length_drop, List.length_map]; omega)) (fun a8 h205 => ?_)
  obtain ⟨v16, lo19, hi19, h206, h207, h208⟩ := bb_cell (j := 0) h205 h204 (by first | omega | (simp only [List.length_append, List.length_cons, List.length_nil, List.length_take, List.length_drop, List.length_map]; omega))
  refine ops_load (by kernel_rfl) (by kernel_rfl) (by kernel_rfl) (by kernel_rfl) h206 ?_
  refine ops_toS (b := zs.getD 0 []) (by kernel_rfl) (by kernel_rfl) (by kernel_rfl) (by kernel_rfl) (by kernel_rfl) h207 ?_
  have hnl := hsx (zs.getD 0 []) (getD_mem (by omega))
  refine ops_callr (by kernel_rfl) (by kernel_rfl) (by kernel_rfl) (number_ok (zs.getD 0 []) (by first | omega | (simp only [List.length_append, List.length_cons, List.length_nil, List.length_take, List.length_drop, List.length_map]; omega)) w25) ?_
  rintro _ w26 ⟨c29, n7, ok3, rfl, h209, h210, h211⟩
  have z49 := c29.size
  have h212 := h209
  refine ops_run4 (l' := [(0, bv), (2, .pointer (some ⟨b1, 0, none⟩)), (3, .int .i64 0), (4, v0), (9, .pointer (some ⟨b3, 0, none⟩)), (62, .int .i64 n7), (64, .pointer (some ⟨b3, 0, none⟩))]) (by kernel_rfl) ?_
  have h213 := h194.keep0 c29 (by omega)
  refine ops_store (i := 0) (v := .int .i64 n7) [.int .i64 n7, S (zs.getD 1 []), S (zs.getD 2 []), .slice none 0 0, .int .i64 0, (.slice A4 n6 c27)] (by kernel_rfl) (by kernel_rfl) (by kernel_rfl) (by kernel_rfl) (by kernel_rfl) (by kernel_rfl) h213 (by kernel_rfl) (by kernel_rfl) (fun w27 h214 c30 z50 => ?_)
  have z51 := c30.size
  refine ops_nil (nx_seq (at_seq (at_region ?_)))
  refine ops_run1 (l' := [(0, bv), (2, .pointer (some ⟨b1, 0, none⟩)), (3, .int .i64 0), (4, v0), (9, .pointer (some ⟨b3, 0, none⟩)), (66, v0)]) (by kernel_rfl) ?_
  have h215 := h201.keep0 c29 (by omega)
  have h216 := h215.keepR c30 (by omega) (by intro y hy; simp only [List.mem_cons, List.not_mem_nil, or_false] at hy; omega)
  obtain ⟨vs12, lo20, hi20, h217, h218, h219⟩ := id h216
  refine ops_idx (e := 22) (i := 3) (kd := .i64) 3 (by kernel_rfl) (by kernel_rfl) (by kernel_rfl) (by kernel_rfl) (by kernel_rfl) (by kernel_rfl) h218 (by omega) (by first | omega | (simp only [List.length_append, List.length_cons, List.length_nil, List.length_take, List.length_drop, List.length_map]; omega)) (fun a9 h220 => ?_)
  obtain ⟨v17, lo21, hi21, h221, h222, h223⟩ := bb_cell (j := 3) h220 h219 (by first | omega | (simp only [List.length_append, List.length_cons, List.length_nil, List.length_take, List.length_drop, List.length_map]; omega))
  refine ops_load (by kernel_rfl) (by kernel_rfl) (by kernel_rfl) (by kernel_rfl) h221 ?_
  refine ops_toS (b := zs.getD 3 []) (by kernel_rfl) (by kernel_rfl) (by kernel_rfl) (by kernel_rfl) (by kernel_rfl) h222 ?_
  have hnl := hsx (zs.getD 3 []) (getD_mem (by omega))
  refine ops_callr (by kernel_rfl) (by kernel_rfl) (by kernel_rfl) (number_ok (zs.getD 3 []) (by first | omega | (simp only [List.length_append, List.length_cons, List.length_nil, List.length_take, List.length_drop, List.length_map]; omega)) w27) ?_
  rintro _ w28 ⟨c31, n8, ok4, rfl, h224, h225, h226⟩
  have z52 := c31.size
  have h227 := h224
  refine ops_run5 (l' := [(0, bv), (2, .pointer (some ⟨b1, 0, none⟩)), (3, .int .i64 0), (4, v0), (9, .pointer (some ⟨b3, 0, none⟩)), (71, .int .i64 n8), (74, .pointer (some ⟨b3, 4, none⟩))]) (by kernel_rfl) ?_
  have h228 := h214.keep0 c31 (by omega)
  refine ops_store (i := 4) (v := .int .i64 n8) [.int .i64 n7, S (zs.getD 1 []), S (zs.getD 2 []), .slice none 0 0, .int .i64 n8, (.slice A4 n6 c27)] (by kernel_rfl) (by kernel_rfl) (by kernel_rfl) (by kernel_rfl) (by kernel_rfl) (by kernel_rfl) h228 (by kernel_rfl) (by kernel_rfl) (fun w29 h229 c32 z53 => ?_)
  have z54 := c32.size
  refine ops_nil (nx_seq (at_seq (at_seq (at_region ?_))))
  refine ops_run2 (l' := [(0, bv), (2, .pointer (some ⟨b1, 0, none⟩)), (3, .int .i64 0), (9, .pointer (some ⟨b3, 0, none⟩)), (75, v0), (76, v0)]) (by kernel_rfl) ?_
  have h230 := h216.keep0 c31 (by omega)
  have h231 := h230.keepR c32 (by omega) (by intro y hy; simp only [List.mem_cons, List.not_mem_nil, or_false] at hy; omega)
  obtain ⟨vs13, lo22, hi22, h232, h233, h234⟩ := id h231
  refine ops_len (e := 22) (by kernel_rfl) (by kernel_rfl) (by kernel_rfl) (by kernel_rfl) h233 ?_
  refine ops_sub_ (a := (zs.length : Int)) (b := 1) (kd := .i64) (by kernel_rfl) (by kernel_rfl) (by kernel_rfl) (by kernel_rfl) (show (-9223372036854775808 : Int) ≤ ((zs.length : Int)) - 1 by omega) (show ((zs.length : Int)) - 1 ≤ (9223372036854775807 : Int) by omega) ?_
  obtain ⟨vs14, lo23, hi23, h235, h236, h237⟩ := id h231
  refine ops_part (e := 22) (i := 5) (kd := .i64) (i' := ((zs.length : Int)) - 1) (kd' := .i64) 5 ((zs.length) - 1) (by kernel_rfl) (by kernel_rfl) (by kernel_rfl) (by kernel_rfl) (by kernel_rfl) (by kernel_rfl) (by kernel_rfl) h236 (by first | omega | (simp only [List.length_append, List.length_cons, List.length_nil, List.length_take, List.length_drop, List.length_map]; omega)) (by first | omega | (simp only [List.length_append, List.length_cons, List.length_nil, List.length_take, List.length_drop, List.length_map]; omega)) (by first | omega | (simp only [List.length_append, List.length_cons, List.length_nil, List.length_take, List.length_drop, List.length_map]; omega)) (by first | omega | (simp only [List.length_append, List.length_cons, List.length_nil, List.length_take, List.length_drop, List.length_map]; omega)) (fun v18 h238 => ?_)
  have h239 := bb_part h238 (by first | omega | (simp only [List.length_append, List.length_cons, List.length_nil, List.length_take, List.length_drop, List.length_map]; omega)) h235 h237
  obtain ⟨D, hD⟩ : ∃ D, D = (zs.drop 5).take (((zs.length) - 1) - 5) := ⟨_, rfl⟩
  rw [← hD] at h239
  have hDl : D.length ≤ 110 := by rw [hD, List.length_take, List.length_drop]; omega
  obtain ⟨vs15, lo24, hi24, h240, h241, h242⟩ := id h239
  refine ops_len (e := 22) (by kernel_rfl) (by kernel_rfl) (by kernel_rfl) (by kernel_rfl) h241 ?_
  refine ops_run1 (l' := [(0, bv), (2, .pointer (some ⟨b1, 0, none⟩)), (3, .int .i64 0), (9, .pointer (some ⟨b3, 0, none⟩)), (79, v18), (80, .int .i64 ((D.length : Int))), (81, .int .i64 0)]) (by kernel_rfl) ?_
  refine ops_nil (nx_seq (at_block ?_))
  refine at_loop (X := Value × (List Bytes) × Nat) (fun x_ => [(0, bv), (2, .pointer (some ⟨b1, 0, none⟩)), (3, .int .i64 0), (9, .pointer (some ⟨b3, 0, none⟩)), (79, v18), (80, .int .i64 ((D.length : Int))), (81, .int .i64 ((x_.2.2 : Int)))]) (fun x_ W4 => Chg [b3] (w29.heap.size) w29 W4 ∧ Blk W4 b3 [.int .i64 n7, S (zs.getD 1 []), S (zs.getD 2 []), x_.1, .int .i64 n8, (.slice A4 n6 c27)] 28 ∧ OwnS W4 w29.heap.size x_.1 x_.2.1 ∧ (x_.2.2 ≤ D.length) ∧ (x_.2.1 = D.take x_.2.2)) (fun x_ => D.length - x_.2.2) (.slice none 0 0, [], 0) (proj_sub [0, 2, 3, 9, 79, 80, 81] (by kernel_rfl)) ⟨(Chg.refl [b3] w29), h229, Own.nil _ _ _ (by omega), (show 0 ≤ D.length by first | omega | (simp only [List.length_append, List.length_cons, List.length_nil, List.length_take, List.length_drop, List.length_map]; omega)), (show [] = D.take 0 by rfl)⟩ ?_
  rintro ⟨tv, ts, k⟩ w30 ⟨h243, h244, h245, h246, h247⟩
  replace h243 : Chg [b3] (w29.heap.size) w29 w30 := h243
  replace h244 : Blk w30 b3 [.int .i64 n7, S (zs.getD 1 []), S (zs.getD 2 []), tv, .int .i64 n8, (.slice A4 n6 c27)] 28 := h244
  replace h245 : OwnS w30 w29.heap.size tv ts := h245
  replace h246 : (k ≤ D.length) := h246
  replace h247 : (ts = D.take k) := h247
  have z55 := h243.size
  have z56 := h244.lt
  have hts := h247
  have htsl : ts.length ≤ k := by rw [hts, List.length_take]; omega
  refine at_seq (at_region ?_)
  refine ops_run1 (l' := [(0, bv), (2, .pointer (some ⟨b1, 0, none⟩)), (3, .int .i64 0), (9, .pointer (some ⟨b3, 0, none⟩)), (79, v18), (80, .int .i64 ((D.length : Int))), (81, .int .i64 ((k : Int))), (82, .bool (decide (((k : Int) : Int) < ((D.length : Int) : Int))))]) (by kernel_rfl) ?_
  refine ops_nil (nx_seq (at_seq ?_))
  refine at_ifp (((k : Int) : Int) < ((D.length : Int) : Int)) (by kernel_rfl) (fun q6 => ?_) (fun q6 => ?_)
  refine at_skip (nx_seq (at_seq (at_block (at_seq (at_region ?_)))))
  have h248 := h239.keepR h243 (by omega) (by intro y hy; simp only [List.mem_cons, List.not_mem_nil, or_false] at hy; omega)
  obtain ⟨vs16, lo25, hi25, h249, h250, h251⟩ := id h248
  refine ops_idx (e := 22) (i := (k : Int)) (kd := .i64) k (by kernel_rfl) (by kernel_rfl) (by kernel_rfl) (by kernel_rfl) (by kernel_rfl) (by kernel_rfl) h250 (by omega) (by first | omega | (simp only [List.length_append, List.length_cons, List.length_nil, List.length_take, List.length_drop, List.length_map]; omega)) (fun a10 h252 => ?_)
  obtain ⟨v19, lo26, hi26, h253, h254, h255⟩ := bb_cell (j := k) h252 h251 (by first | omega | (simp only [List.length_append, List.length_cons, List.length_nil, List.length_take, List.length_drop, List.length_map]; omega))
  refine ops_load (by kernel_rfl) (by kernel_rfl) (by kernel_rfl) (by kernel_rfl) h253 ?_
  refine ops_run1 (l' := [(0, bv), (2, .pointer (some ⟨b1, 0, none⟩)), (3, .int .i64 0), (9, .pointer (some ⟨b3, 0, none⟩)), (11, v19), (79, v18), (80, .int .i64 ((D.length : Int))), (81, .int .i64 ((k : Int)))]) (by kernel_rfl) ?_
  refine ops_nil (nx_seq (at_region ?_))
  refine ops_run2 (l' := [(0, bv), (2, .pointer (some ⟨b1, 0, none⟩)), (3, .int .i64 0), (9, .pointer (some ⟨b3, 0, none⟩)), (11, v19), (79, v18), (80, .int .i64 ((D.length : Int))), (81, .int .i64 ((k : Int))), (86, .pointer (some ⟨b3, 3, none⟩))]) (by kernel_rfl) ?_
  refine ops_loadB (i := 3) (v := tv) (by kernel_rfl) (by kernel_rfl) (by kernel_rfl) (by kernel_rfl) h244 (by kernel_rfl) ?_
  refine ops_run1 (l' := [(0, bv), (2, .pointer (some ⟨b1, 0, none⟩)), (3, .int .i64 0), (9, .pointer (some ⟨b3, 0, none⟩)), (79, v18), (80, .int .i64 ((D.length : Int))), (81, .int .i64 ((k : Int))), (87, tv), (88, v19)]) (by kernel_rfl) ?_
  refine ops_toS (b := D.getD k []) (by kernel_rfl) (by kernel_rfl) (by kernel_rfl) (by kernel_rfl) (by kernel_rfl) h254 ?_
  refine ops_lit (e := 9) (sz := 1) [S (D.getD k [])] (by kernel_rfl) (by kernel_rfl) (by kernel_rfl) rfl (by decide) (fun v20 w31 h256 c33 z57 => ?_)
  have z58 := c33.size
  replace h256 : OwnS w31 (w30.heap.size) v20 [D.getD k []] := h256.1
  have h257 := h245.keep c33 (by omega) (fun _ _ _ => by simp)
  refine ops_appendS (e := 9) (by_ := 16) (l1 := ts) (l2 := [D.getD k []]) (by kernel_rfl) (by kernel_rfl) (by kernel_rfl) (by kernel_rfl) (by kernel_rfl) (by kernel_rfl) (by kernel_rfl) h257 h256.sl (by first | omega | (simp only [List.length_append, List.length_cons, List.length_nil, List.length_take, List.length_drop, List.length_map]; omega)) (by first | omega | (simp only [List.length_append, List.length_cons, List.length_nil, List.length_take, List.length_drop, List.length_map]; omega)) (fun v21 w32 h258 c34 c35 => ?_)
  have z59 := c34.size
  refine ops_run2 (l' := [(0, bv), (2, .pointer (some ⟨b1, 0, none⟩)), (3, .int .i64 0), (9, .pointer (some ⟨b3, 0, none⟩)), (79, v18), (80, .int .i64 ((D.length : Int))), (81, .int .i64 ((k : Int))), (91, v21), (93, .pointer (some ⟨b3, 3, none⟩))]) (by kernel_rfl) ?_
  have h259 := h244.keep0 c33 (by omega)
  have h260 := h259.keep0 c34 (by omega)
  refine ops_store (i := 3) (v := v21) [.int .i64 n7, S (zs.getD 1 []), S (zs.getD 2 []), v21, .int .i64 n8, (.slice A4 n6 c27)] (by kernel_rfl) (by kernel_rfl) (by kernel_rfl) (by kernel_rfl) h258.sl.one (by kernel_rfl) h260 (by kernel_rfl) (by kernel_rfl) (fun w33 h261 c36 z60 => ?_)
  have z61 := c36.size
  refine ops_nil (nx_blk (nx_seq (at_region ?_)))
  refine ops_add (a := (k : Int)) (b := 1) (kd := .i64) (by kernel_rfl) (by kernel_rfl) (by kernel_rfl) (by kernel_rfl) (show (-9223372036854775808 : Int) ≤ ((k : Int)) + 1 by omega) (show ((k : Int)) + 1 ≤ (9223372036854775807 : Int) by omega) ?_
  refine ops_run1 (l' := [(0, bv), (2, .pointer (some ⟨b1, 0, none⟩)), (3, .int .i64 0), (9, .pointer (some ⟨b3, 0, none⟩)), (79, v18), (80, .int .i64 ((D.length : Int))), (81, .int .i64 (((k : Int)) + 1))]) (by kernel_rfl) ?_
  refine ops_nil ?_
  have h262 := h258.keep c36 (by omega) (fun b _ _ => by simp only [List.mem_cons, List.not_mem_nil, or_false, not_or]; omega)
  refine nx_round (v21, ts ++ [D.getD k []], (k) + 1) (proj_sub [0, 2, 3, 9, 79, 80, 81] (by kernel_rfl)) ⟨(((((Chg.refl [b3] w29).step h243 (by omega) (by intro y hy; simp only [List.mem_cons, List.not_mem_nil, or_false, false_or] at hy ⊢; try omega)).step0 c33 (by omega)).step0 c34 (by omega)).step c36 (by omega) (by intro y hy; simp only [List.mem_cons, List.not_mem_nil, or_false, false_or] at hy ⊢; try omega)), h261, h262, (show ((k) + 1) ≤ D.length by first | omega | (simp only [List.length_append, List.length_cons, List.length_nil, List.length_take, List.length_drop, List.length_map]; omega)), (show (ts ++ [D.getD k []]) = D.take ((k) + 1) by rw [hts]; exact take_snoc1 (by omega))⟩ (show D.length - ((k) + 1) < D.length - k by omega)
  refine at_exit (ex_seq (ex_inv (ex_here (nx_seq (at_seq (at_region ?_))))))
  refine ops_loadS (i := 0) (vs := [.int .i64 n7, S (zs.getD 1 []), S (zs.getD 2 []), tv, .int .i64 n8, (.slice A4 n6 c27)]) 6 (by kernel_rfl) (by kernel_rfl) (by kernel_rfl) (by kernel_rfl) (by kernel_rfl) h244 (by kernel_rfl) (by kernel_rfl) ?_
  have h263 := (by first | exact h196.keep1 c28 (by omega) (by omega) | exact bs_apart h196 c28 h187 (by simp) (by omega))
  have h264 := h263.keep0 c29 (by omega)
  have h265 := (by first | exact h264.keep1 c30 (by omega) (by omega) | exact bs_apart h264 c30 h213 (by simp) (by omega))
  have h266 := h265.keep0 c31 (by omega)
  have h267 := (by first | exact h266.keep1 c32 (by omega) (by omega) | exact bs_apart h266 c32 h228 (by simp) (by omega))
  have h268 := h267.keep1 h243 (by omega) (by omega)
  obtain ⟨mm, hmm⟩ : ∃ mm, mm = (⟨n7, zs.getD 1 [], zs.getD 2 [], ts, n8, zs.getD ((zs.length) - 1) []⟩ : Msg) := ⟨_, rfl⟩
  have h271 := hg.keep0 c1 (by omega)
  have h272 := h271.keep0 h25 (by omega)
  have h273 := h272.keep0 c8 (by omega)
  have h274 := h273.keep0 c26 (by omega)
  have h275 := h274.keep c28 (by omega) (by intro y hy; simp only [List.mem_cons, List.not_mem_nil, or_false]; omega)
  have h276 := h275.keep0 c29 (by omega)
  have h277 := h276.keep c30 (by omega) (by intro y hy; simp only [List.mem_cons, List.not_mem_nil, or_false]; omega)
  have h278 := h277.keep0 c31 (by omega)
  have h279 := h278.keep c32 (by omega) (by intro y hy; simp only [List.mem_cons, List.not_mem_nil, or_false]; omega)
  have h280 := h279.keep h243 (by omega) (by intro y hy; simp only [List.mem_cons, List.not_mem_nil, or_false]; omega)
  refine ops_callr (by kernel_rfl) (by kernel_rfl) (by kernel_rfl) (rEncode_ok (⟨n7, zs.getD 1 [], zs.getD 2 [], ts, n8, zs.getD ((zs.length) - 1) []⟩ : Msg) h245.sl h268 (show (zs.getD 2 []).length < 4294967281 by have := hsx (zs.getD 2 []) (getD_mem (by omega)); omega) (fun s hs => (by have := hsx s (by have h9 := hts ▸ hs; have h8 := List.mem_of_mem_take h9; rw [hD] at h8; exact List.mem_of_mem_drop (List.mem_of_mem_take h8)); omega)) (show (zs.getD 1 []).length < 4294967281 by have := hsx (zs.getD 1 []) (getD_mem (by omega)); omega) (show n7 ≤ 9223372036854775807 by omega) (show n8 ≤ 9223372036854775807 by omega) h280) ?_
  rintro _ w34 ⟨c37, (⟨h269, v22, rfl, h270⟩ | ⟨h269, rfl⟩)⟩
  have z62 := c37.size
  rw [← hmm] at h269 h270
  refine ops_run5 (l' := [(0, bv), (2, .pointer (some ⟨b1, 0, none⟩)), (3, .int .i64 0), (9, .pointer (some ⟨b3, 0, none⟩)), (12, v22), (13, .int .i64 0)]) (by kernel_rfl) ?_
  refine ops_nil (nx_seq (at_seq (at_seq (at_region ?_))))
  refine ops_run4 (l' := [(0, bv), (2, .pointer (some ⟨b1, 0, none⟩)), (3, .int .i64 0), (9, .pointer (some ⟨b3, 0, none⟩)), (102, .bool false), (103, v22)]) (by kernel_rfl) ?_
  refine ops_toS (b := putL (partsM mm)) (by kernel_rfl) (by kernel_rfl) (by kernel_rfl) (by kernel_rfl) (by kernel_rfl) h270 ?_
  refine ops_run1 (l' := [(2, .pointer (some ⟨b1, 0, none⟩)), (3, .int .i64 0), (9, .pointer (some ⟨b3, 0, none⟩)), (102, .bool false), (104, S (putL (partsM mm))), (105, bv)]) (by kernel_rfl) ?_
  have h281 := hb.keep0 c1 (by omega)
  have h282 := h281.keep0 h25 (by omega)
  have h283 := h282.keep0 c8 (by omega)
  have h284 := h283.keep0 c26 (by omega)
  have h285 := h284.keep1 c28 (by omega) (by omega)
  have h286 := h285.keep0 c29 (by omega)
  have h287 := h286.keep1 c30 (by omega) (by omega)
  have h288 := h287.keep0 c31 (by omega)
  have h289 := h288.keep1 c32 (by omega) (by omega)
  have h290 := h289.keep1 h243 (by omega) (by omega)
  have h291 := h290.keep0 c37 (by omega)
  refine ops_toS (b := b) (by kernel_rfl) (by kernel_rfl) (by kernel_rfl) (by kernel_rfl) (by kernel_rfl) h291 ?_
  refine ops_neS (a := putL (partsM mm)) (b := b) (by kernel_rfl) (by kernel_rfl) (by kernel_rfl) (by kernel_rfl) ?_
  refine ops_run1 (l' := [(2, .pointer (some ⟨b1, 0, none⟩)), (3, .int .i64 0), (9, .pointer (some ⟨b3, 0, none⟩)), (108, .bool (decide ((putL (partsM mm) : Bytes) ≠ b)))]) (by kernel_rfl) ?_
  refine ops_nil (nx_seq ?_)
  refine at_ifp ((putL (partsM mm) : Bytes) ≠ b) (by kernel_rfl) (fun q7 => ?_) (fun q7 => ?_)
  refine at_seq (at_region ?_)
  refine ops_run1 (l' := [(2, .pointer (some ⟨b1, 0, none⟩)), (3, .int .i64 0), (9, .pointer (some ⟨b3, 0, none⟩)), (109, .agg #[.int .i64 0, S [], S [], .slice none 0 0, .int .i64 0, .slice none 0 0])]) (by kernel_rfl) ?_
  have h292 := h197.keep0 c29 (by omega)
  have h293 := h292.keep1 c30 (by omega) (by omega)
  have h294 := h293.keep0 c31 (by omega)
  have h295 := h294.keep1 c32 (by omega) (by omega)
  have h296 := h295.keep1 h243 (by omega) (by omega)
  have h297 := h296.keep0 c37 (by omega)
  refine ops_storeS (i := 0) (vs := [.int .i64 0, S [], S [], .slice none 0 0, .int .i64 0, .slice none 0 0]) [.int .i64 0, S [], S [], .slice none 0 0, .int .i64 0, .slice none 0 0] (by kernel_rfl) (by kernel_rfl) (by kernel_rfl) (by kernel_rfl) (by kernel_rfl) (by kernel_rfl) h297 (by kernel_rfl) (by kernel_rfl) (fun w35 h298 c38 z63 => ?_)
  have z64 := c38.size
  refine ops_run1 (l' := [(2, .pointer (some ⟨b1, 0, none⟩)), (3, .int .i64 150), (9, .pointer (some ⟨b3, 0, none⟩))]) (by kernel_rfl) ?_
  refine ops_nil (nx_seq ?_)
  refine at_retV (rs := [.cell 2 28, .tmp 3]) (vs := [.agg #[.int .i64 0, S [], S [], .slice none 0 0, .int .i64 0, .slice none 0 0], .int .i64 150]) rfl (ResV.cellS (by kernel_rfl) h298 (by kernel_rfl) (by kernel_rfl) (ResV.tmp (by kernel_rfl) ResV.nil)) ?_
  have htsD : ts = D := by rw [hts, List.take_of_length_le (by omega)]
  exact ⟨_, rfl, (((((((((((((Chg.refl [] w).step0 c1 (by omega)).step0 h25 (by omega)).step0 c8 (by omega)).step0 c26 (by omega)).step c28 (by omega) (by intro y hy; simp only [List.mem_cons, List.not_mem_nil, or_false, false_or] at hy ⊢; try omega)).step0 c29 (by omega)).step c30 (by omega) (by intro y hy; simp only [List.mem_cons, List.not_mem_nil, or_false, false_or] at hy ⊢; try omega)).step0 c31 (by omega)).step c32 (by omega) (by intro y hy; simp only [List.mem_cons, List.not_mem_nil, or_false, false_or] at hy ⊢; try omega)).step h243 (by omega) (by intro y hy; simp only [List.mem_cons, List.not_mem_nil, or_false, false_or] at hy ⊢; try omega)).step0 c37 (by omega)).step c38 (by omega) (by intro y hy; simp only [List.mem_cons, List.not_mem_nil, or_false, false_or] at hy ⊢; try omega)), .inr ⟨fun m hm => (by have h9 := ref_all hm hsx hpre hfin; have h8 := ref_msg hm h9.1 h210 h211 h225 h226 rfl; rw [← hD, ← htsD, ← hmm] at h8; subst h8; first | exact h269 hm.1.1 | exact q7 hm.1.2.symm), rfl⟩⟩
  refine at_skip (nx_seq (at_seq (at_region ?_)))
  have h299 := h244.keep0 c37 (by omega)
  refine ops_loadS (i := 0) (vs := [.int .i64 n7, S (zs.getD 1 []), S (zs.getD 2 []), tv, .int .i64 n8, (.slice A4 n6 c27)]) 6 (by kernel_rfl) (by kernel_rfl) (by kernel_rfl) (by kernel_rfl) (by kernel_rfl) h299 (by kernel_rfl) (by kernel_rfl) ?_
  have h300 := h197.keep0 c29 (by omega)
  have h301 := h300.keep1 c30 (by omega) (by omega)
  have h302 := h301.keep0 c31 (by omega)
  have h303 := h302.keep1 c32 (by omega) (by omega)
  have h304 := h303.keep1 h243 (by omega) (by omega)
  have h305 := h304.keep0 c37 (by omega)
  have h307 := h245.keep c37 (by omega) (fun _ _ _ => by simp)
  have h308 := h268.keep0 c37 (by omega)
  refine ops_storeS (i := 0) (vs := [.int .i64 n7, S (zs.getD 1 []), S (zs.getD 2 []), tv, .int .i64 n8, (.slice A4 n6 c27)]) [.int .i64 n7, S (zs.getD 1 []), S (zs.getD 2 []), tv, .int .i64 n8, (.slice A4 n6 c27)] (by kernel_rfl) (by kernel_rfl) (by kernel_rfl) (by kernel_rfl) (by simp only [List.all_cons, List.all_nil, h307.sl.one, h308.one, Bool.and_true, Bool.true_and] <;> rfl) (by kernel_rfl) h305 (by kernel_rfl) (by kernel_rfl) (fun w36 h306 c39 z65 => ?_)
  have z66 := c39.size
  refine ops_run1 (l' := [(2, .pointer (some ⟨b1, 0, none⟩)), (3, .int .i64 0)]) (by kernel_rfl) ?_
  refine ops_nil (nx_seq ?_)
  refine at_retV (rs := [.cell 2 28, .tmp 3]) (vs := [.agg #[.int .i64 n7, S (zs.getD 1 []), S (zs.getD 2 []), tv, .int .i64 n8, (.slice A4 n6 c27)], .int .i64 0]) rfl (ResV.cellS (by kernel_rfl) h306 (by kernel_rfl) (by kernel_rfl) (ResV.tmp (by kernel_rfl) ResV.nil)) ?_
  have h309 := h307.keep c39 (by omega) (fun b _ _ => by simp only [List.mem_cons, List.not_mem_nil, or_false, not_or]; omega)
  have h310 := (by first | exact h308.keep1 c39 (by omega) (by omega) | exact bs_apart h308 c39 h305 (by simp) (by omega))
  exact ⟨_, rfl, (((((((((((((Chg.refl [] w).step0 c1 (by omega)).step0 h25 (by omega)).step0 c8 (by omega)).step0 c26 (by omega)).step c28 (by omega) (by intro y hy; simp only [List.mem_cons, List.not_mem_nil, or_false, false_or] at hy ⊢; try omega)).step0 c29 (by omega)).step c30 (by omega) (by intro y hy; simp only [List.mem_cons, List.not_mem_nil, or_false, false_or] at hy ⊢; try omega)).step0 c31 (by omega)).step c32 (by omega) (by intro y hy; simp only [List.mem_cons, List.not_mem_nil, or_false, false_or] at hy ⊢; try omega)).step h243 (by omega) (by intro y hy; simp only [List.mem_cons, List.not_mem_nil, or_false, false_or] at hy ⊢; try omega)).step0 c37 (by omega)).step c39 (by omega) (by intro y hy; simp only [List.mem_cons, List.not_mem_nil, or_false, false_or] at hy ⊢; try omega)), .inl ⟨mm, tv, (.slice A4 n6 c27), ⟨⟨h269, Eq.symm (Decidable.of_not_not q7)⟩, by rw [hmm]; show n8 ≤ _; omega⟩, by rw [hmm]; rfl, by rw [hmm]; exact (h309.sl).wide (by omega) (by omega) (Nat.le_refl _), by rw [hmm]; exact ⟨_, _, h310⟩⟩⟩
  have z67 := c37.size
  rw [← hmm] at h269
  refine ops_run5 (l' := [(0, bv), (2, .pointer (some ⟨b1, 0, none⟩)), (3, .int .i64 0), (9, .pointer (some ⟨b3, 0, none⟩)), (12, .slice none 0 0), (13, .int .i64 150)]) (by kernel_rfl) ?_
  refine ops_nil (nx_seq (at_seq (at_seq (at_region ?_))))
  refine ops_run9 (l' := [(2, .pointer (some ⟨b1, 0, none⟩)), (3, .int .i64 0), (9, .pointer (some ⟨b3, 0, none⟩)), (108, .bool true)]) (by kernel_rfl) ?_
  refine ops_nil (nx_seq ?_)
  refine at_ift (by kernel_rfl) ?_
  refine at_seq (at_region ?_)
  refine ops_run1 (l' := [(2, .pointer (some ⟨b1, 0, none⟩)), (3, .int .i64 0), (9, .pointer (some ⟨b3, 0, none⟩)), (109, .agg #[.int .i64 0, S [], S [], .slice none 0 0, .int .i64 0, .slice none 0 0])]) (by kernel_rfl) ?_
  have h311 := h197.keep0 c29 (by omega)
  have h312 := h311.keep1 c30 (by omega) (by omega)
  have h313 := h312.keep0 c31 (by omega)
  have h314 := h313.keep1 c32 (by omega) (by omega)
  have h315 := h314.keep1 h243 (by omega) (by omega)
  have h316 := h315.keep0 c37 (by omega)
  refine ops_storeS (i := 0) (vs := [.int .i64 0, S [], S [], .slice none 0 0, .int .i64 0, .slice none 0 0]) [.int .i64 0, S [], S [], .slice none 0 0, .int .i64 0, .slice none 0 0] (by kernel_rfl) (by kernel_rfl) (by kernel_rfl) (by kernel_rfl) (by kernel_rfl) (by kernel_rfl) h316 (by kernel_rfl) (by kernel_rfl) (fun w37 h317 c40 z68 => ?_)
  have z69 := c40.size
  refine ops_run1 (l' := [(2, .pointer (some ⟨b1, 0, none⟩)), (3, .int .i64 150), (9, .pointer (some ⟨b3, 0, none⟩))]) (by kernel_rfl) ?_
  refine ops_nil (nx_seq ?_)
  refine at_retV (rs := [.cell 2 28, .tmp 3]) (vs := [.agg #[.int .i64 0, S [], S [], .slice none 0 0, .int .i64 0, .slice none 0 0], .int .i64 150]) rfl (ResV.cellS (by kernel_rfl) h317 (by kernel_rfl) (by kernel_rfl) (ResV.tmp (by kernel_rfl) ResV.nil)) ?_
  have htsD : ts = D := by rw [hts, List.take_of_length_le (by omega)]
  exact ⟨_, rfl, (((((((((((((Chg.refl [] w).step0 c1 (by omega)).step0 h25 (by omega)).step0 c8 (by omega)).step0 c26 (by omega)).step c28 (by omega) (by intro y hy; simp only [List.mem_cons, List.not_mem_nil, or_false, false_or] at hy ⊢; try omega)).step0 c29 (by omega)).step c30 (by omega) (by intro y hy; simp only [List.mem_cons, List.not_mem_nil, or_false, false_or] at hy ⊢; try omega)).step0 c31 (by omega)).step c32 (by omega) (by intro y hy; simp only [List.mem_cons, List.not_mem_nil, or_false, false_or] at hy ⊢; try omega)).step h243 (by omega) (by intro y hy; simp only [List.mem_cons, List.not_mem_nil, or_false, false_or] at hy ⊢; try omega)).step0 c37 (by omega)).step c40 (by omega) (by intro y hy; simp only [List.mem_cons, List.not_mem_nil, or_false, false_or] at hy ⊢; try omega)), .inr ⟨fun m hm => (by have h9 := ref_all hm hsx hpre hfin; have h8 := ref_msg hm h9.1 h210 h211 h225 h226 rfl; rw [← hD, ← htsD, ← hmm] at h8; subst h8; first | exact h269 hm.1.1 | exact q6 hm.1.2.symm), rfl⟩⟩

end Go.Proofs.YtnjkdnbabogcjaaDoor
