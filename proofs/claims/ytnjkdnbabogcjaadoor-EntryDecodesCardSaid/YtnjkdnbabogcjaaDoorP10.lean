/- A walk, printed by a program of my own (wip/gen/walk.py) from a script of mine. -/
import Derived.Test.YtnjkdnbabogcjaaDoorProg
import Derived.Test.YtnjkdnbabogcjaaDoorL0
import Derived.Test.YtnjkdnbabogcjaaDoorP9
set_option maxHeartbeats 4000000
set_option linter.unusedVariables false
set_option linter.unusedSimpArgs false
set_option maxRecDepth 100000
namespace Go.Proofs.YtnjkdnbabogcjaaDoor
open Go Go.RowKit Go.Kw

theorem decode_ok {w : World} {lo hi : Nat} {bv : Value} {b : Bytes} (hb : Bs w lo hi bv b) (hs : b.length ≤ 1000000) (hg : Gl w) :
    Rt Tryd.prog 10 #[bv] w fun u w' => Chg [] w.heap.size w w' ∧ ((∃ (m : Msg) (tv bdv : Value), DecP m b ∧ u = .tuple #[.agg #[.int .i64 m.id, S m.cls, S m.fr, tv, .int .i64 m.at_, bdv], .int .i64 0] ∧ Ss w' w.heap.size w'.heap.size tv m.to ∧ Bs w' w.heap.size w'.heap.size bdv m.body) ∨ (NoM b ∧ u = .tuple #[.agg #[.int .i64 0, S [], S [], .slice none 0 0, .int .i64 0, .slice none 0 0], .int .i64 150])) := by
  have hhi := hb.hi_le
  have hgs := hg.size
  refine enter (n := 11) (args := [bv]) Tryd.func10 rfl rfl (Nat.le_of_ble_eq_true (by kernel_rfl)) ?_
  refine at_seq (at_region ?_)
  refine ops_box (cs := [bv]) (by kernel_rfl) (by kernel_rfl) (cells_opq (v := bv) (by kernel_rfl) hb.cells1) (fun b1 w1 e1 h1 c1 z1 => ?_)
  have z2 := c1.size
  refine ops_alloc (z := .agg #[.int .i64 0, S [], S [], .slice none 0 0, .int .i64 0, .slice none 0 0]) (cs := [.int .i64 0, S [], S [], .slice none 0 0, .int .i64 0, .slice none 0 0]) (by kernel_rfl) (by kernel_rfl) (by kernel_rfl) (by kernel_rfl) (fun b2 w2 e2 h2 c2 z3 => ?_)
  have z4 := c2.size
  refine ops_run1 (l' := [(1, .pointer (some ⟨b1, 0, none⟩)), (2, .pointer (some ⟨b2, 0, none⟩)), (3, .int .i64 0)]) (by kernel_rfl) ?_
  refine ops_nil (nx_seq (at_seq (at_region ?_)))
  refine ops_run1 (l' := [(2, .pointer (some ⟨b2, 0, none⟩)), (3, .int .i64 0), (4, .func (.func 34) #[] #[.pointer (some ⟨b1, 0, none⟩), .pointer (some ⟨b2, 0, none⟩)])]) (by kernel_rfl) ?_
  have h3 := h1.keep0 c2 (by omega)
  have h4 := hb.keep0 c1 (by omega)
  have h5 := h4.keep0 c2 (by omega)
  have h6 := hg.keep0 c1 (by omega)
  have h7 := h6.keep0 c2 (by omega)
  refine ops_callr (by kernel_rfl) (by kernel_rfl) (by kernel_rfl) (entry_caught 34 [.pointer (some ⟨b1, 0, none⟩), .pointer (some ⟨b2, 0, none⟩)] (fun _ _ => rfl) (fun W => ∃ (m : Msg) (tv bdv : Value), DecP m b ∧ Blk W b2 [.int .i64 m.id, S m.cls, S m.fr, tv, .int .i64 m.at_, bdv] 28 ∧ Ss W (w2.heap.size + 1) W.heap.size tv m.to ∧ Bs W (w2.heap.size + 1) W.heap.size bdv m.body) (fun W => NoM b ∧ ∃ c0 c1 c2 c3 c4 c5, Blk W b2 [c0, c1, c2, c3, c4, c5] 28) [b2] w2 (by intro y hy; simp only [List.mem_cons, List.not_mem_nil, or_false] at hy <;> omega) (fun W1 C1 Z1 => (decode1_ok (h3.keep0 C1 (by omega)) (h2.keep0 C1 (by omega)) (h5.keep0 C1 (by omega)) hs (by omega) (by omega) (by omega) (h7.keep0 C1 (by omega)) (by omega)).mono (fun VV WW HH => (by obtain ⟨⟨m, tv, bdv, g1, g2, g3, g4⟩, g5⟩ := HH; rw [Z1] at g3 g4; exact ⟨⟨m, tv, bdv, g1, g2, g3, g4⟩, g5⟩)) (fun ch WW HH => HH))) ?_
  rintro _ w5 ⟨w3, w4, c3, c4, c5, (⟨rfl, h8⟩ | ⟨rfl, h8⟩)⟩
  have z5 := c3.size
  have z6 := c4.size
  obtain ⟨m, tv, bdv, hdec, hrb, hrt, hrd⟩ := h8
  have hrl := hrb.lt
  have z7 := c5.size
  refine ops_run1 (l' := [(2, .pointer (some ⟨b2, 0, none⟩)), (3, .int .i64 0)]) (by kernel_rfl) ?_
  refine ops_nil (nx_seq (at_seq (at_seq (at_region ?_))))
  refine ops_run2 (l' := [(2, .pointer (some ⟨b2, 0, none⟩)), (3, .int .i64 0), (7, .bool false)]) (by kernel_rfl) ?_
  refine ops_nil (nx_seq ?_)
  refine at_iff (by kernel_rfl) ?_
  refine at_skip (nx_seq (at_seq (at_region ?_)))
  have h9 := hrb.keep1 c5 (by omega) (by omega)
  refine ops_loadS (i := 0) (vs := [.int .i64 m.id, S m.cls, S m.fr, tv, .int .i64 m.at_, bdv]) 6 (by kernel_rfl) (by kernel_rfl) (by kernel_rfl) (by kernel_rfl) (by kernel_rfl) h9 (by kernel_rfl) (by kernel_rfl) ?_
  have h11 := hrt.keep1 c5 (by omega) (by omega)
  have h12 := hrd.keep1 c5 (by omega) (by omega)
  refine ops_storeS (i := 0) (vs := [.int .i64 m.id, S m.cls, S m.fr, tv, .int .i64 m.at_, bdv]) [.int .i64 m.id, S m.cls, S m.fr, tv, .int .i64 m.at_, bdv] (by kernel_rfl) (by kernel_rfl) (by kernel_rfl) (by kernel_rfl) (by simp only [List.all_cons, List.all_nil, h11.one, h12.one, Bool.and_true, Bool.true_and] <;> rfl) (by kernel_rfl) h9 (by kernel_rfl) (by kernel_rfl) (fun w6 h10 c6 z8 => ?_)
  have z9 := c6.size
  refine ops_run1 (l' := [(2, .pointer (some ⟨b2, 0, none⟩)), (3, .int .i64 0)]) (by kernel_rfl) ?_
  refine ops_nil (nx_seq ?_)
  refine at_retV (rs := [.cell 2 28, .tmp 3]) (vs := [.agg #[.int .i64 m.id, S m.cls, S m.fr, tv, .int .i64 m.at_, bdv], .int .i64 0]) rfl (ResV.cellS (by kernel_rfl) h10 (by kernel_rfl) (by kernel_rfl) (ResV.tmp (by kernel_rfl) ResV.nil)) ?_
  have h13 := h11.keep1 c6 (by omega) (by omega)
  have h14 := h12.keep1 c6 (by omega) (by omega)
  exact ⟨_, rfl, (((((((Chg.refl [] w).step0 c1 (by omega)).step0 c2 (by omega)).step0 c3 (by omega)).step c4 (by omega) (by intro y hy; simp only [List.mem_cons, List.not_mem_nil, or_false, false_or] at hy ⊢; try omega)).step c5 (by omega) (by intro y hy; simp only [List.mem_cons, List.not_mem_nil, or_false, false_or] at hy ⊢; try omega)).step c6 (by omega) (by intro y hy; simp only [List.mem_cons, List.not_mem_nil, or_false, false_or] at hy ⊢; try omega)), .inl ⟨m, tv, bdv, hdec, rfl, h13.wide (by omega) (by omega) (by omega), h14.wide (by omega) (by omega) (by omega)⟩⟩
  have z10 := c3.size
  have z11 := c4.size
  obtain ⟨hno, q0, q1, q2, q3, q4, q5, hrb⟩ := h8
  have hrl := hrb.lt
  have z12 := c5.size
  refine ops_run1 (l' := [(2, .pointer (some ⟨b2, 0, none⟩)), (3, .int .i64 150)]) (by kernel_rfl) ?_
  refine ops_nil (nx_seq (at_seq (at_seq (at_region ?_))))
  refine ops_run2 (l' := [(2, .pointer (some ⟨b2, 0, none⟩)), (3, .int .i64 150), (7, .bool true)]) (by kernel_rfl) ?_
  refine ops_nil (nx_seq ?_)
  refine at_ift (by kernel_rfl) ?_
  refine at_seq (at_region ?_)
  refine ops_run2 (l' := [(2, .pointer (some ⟨b2, 0, none⟩)), (3, .int .i64 150), (8, .agg #[.int .i64 0, S [], S [], .slice none 0 0, .int .i64 0, .slice none 0 0]), (9, .int .i64 150)]) (by kernel_rfl) ?_
  have h15 := hrb.keep1 c5 (by omega) (by omega)
  refine ops_storeS (i := 0) (vs := [.int .i64 0, S [], S [], .slice none 0 0, .int .i64 0, .slice none 0 0]) [.int .i64 0, S [], S [], .slice none 0 0, .int .i64 0, .slice none 0 0] (by kernel_rfl) (by kernel_rfl) (by kernel_rfl) (by kernel_rfl) (by kernel_rfl) (by kernel_rfl) h15 (by kernel_rfl) (by kernel_rfl) (fun w7 h16 c7 z13 => ?_)
  have z14 := c7.size
  refine ops_run1 (l' := [(2, .pointer (some ⟨b2, 0, none⟩)), (3, .int .i64 150)]) (by kernel_rfl) ?_
  refine ops_nil (nx_seq ?_)
  refine at_retV (rs := [.cell 2 28, .tmp 3]) (vs := [.agg #[.int .i64 0, S [], S [], .slice none 0 0, .int .i64 0, .slice none 0 0], .int .i64 150]) rfl (ResV.cellS (by kernel_rfl) h16 (by kernel_rfl) (by kernel_rfl) (ResV.tmp (by kernel_rfl) ResV.nil)) ?_
  exact ⟨_, rfl, (((((((Chg.refl [] w).step0 c1 (by omega)).step0 c2 (by omega)).step0 c3 (by omega)).step c4 (by omega) (by intro y hy; simp only [List.mem_cons, List.not_mem_nil, or_false, false_or] at hy ⊢; try omega)).step c5 (by omega) (by intro y hy; simp only [List.mem_cons, List.not_mem_nil, or_false, false_or] at hy ⊢; try omega)).step c7 (by omega) (by intro y hy; simp only [List.mem_cons, List.not_mem_nil, or_false, false_or] at hy ⊢; try omega)), .inr ⟨hno, rfl⟩⟩
theorem same11_ok (fr : Bytes) (to : List Bytes) (at_ : Int) {w : World} {lo1 hi1 lo2 hi2 : Nat} {tv1 tv2 : Value} (p1 : Ss w lo1 hi1 tv1 to) (p2 : Ss w lo2 hi2 tv2 to) : Pu Tryd.prog 16 #[.agg #[S fr, tv1, .int .i64 at_], .agg #[S fr, tv2, .int .i64 at_]] w (.bool true) := by
  have z1 := p1.hi_le
  have z2 := p1.len_le
  have z3 := p2.hi_le
  have z4 := p2.len_le
  refine enter (n := 45) (args := [.agg #[S fr, tv1, .int .i64 at_], .agg #[S fr, tv2, .int .i64 at_]]) Tryd.func16 rfl rfl (Nat.le_of_ble_eq_true (by kernel_rfl)) ?_
  refine at_seq (at_region ?_)
  refine ops_box (cs := [S fr, tv1, .int .i64 at_]) (by kernel_rfl) (by kernel_rfl) (by kernel_rfl) (fun b1 w1 e1 h1 c1 z5 => ?_)
  have z6 := c1.size
  refine ops_box (cs := [S fr, tv2, .int .i64 at_]) (by kernel_rfl) (by kernel_rfl) (by kernel_rfl) (fun b2 w2 e2 h2 c2 z7 => ?_)
  have z8 := c2.size
  refine ops_run1 (l' := [(2, .pointer (some ⟨b1, 0, none⟩)), (3, .pointer (some ⟨b2, 0, none⟩)), (4, .bool false)]) (by kernel_rfl) ?_
  refine ops_nil (nx_seq (at_seq (at_seq (at_region ?_))))
  refine ops_run1 (l' := [(2, .pointer (some ⟨b1, 0, none⟩)), (3, .pointer (some ⟨b2, 0, none⟩)), (4, .bool false), (6, .pointer (some ⟨b1, 0, none⟩))]) (by kernel_rfl) ?_
  have h3 := h1.keep0 c2 (by omega)
  refine ops_loadB (i := 0) (v := S fr) (by kernel_rfl) (by kernel_rfl) (by kernel_rfl) (by kernel_rfl) h3 (by kernel_rfl) ?_
  refine ops_run1 (l' := [(2, .pointer (some ⟨b1, 0, none⟩)), (3, .pointer (some ⟨b2, 0, none⟩)), (4, .bool false), (7, S fr), (8, .pointer (some ⟨b2, 0, none⟩))]) (by kernel_rfl) ?_
  refine ops_loadB (i := 0) (v := S fr) (by kernel_rfl) (by kernel_rfl) (by kernel_rfl) (by kernel_rfl) h2 (by kernel_rfl) ?_
  refine ops_neS (a := fr) (b := fr) (by kernel_rfl) (by kernel_rfl) (by kernel_rfl) (by kernel_rfl) ?_
  refine ops_run1 (l' := [(2, .pointer (some ⟨b1, 0, none⟩)), (3, .pointer (some ⟨b2, 0, none⟩)), (4, .bool false), (11, .bool (decide ((fr : Bytes) ≠ fr)))]) (by kernel_rfl) ?_
  by_cases q1 : (fr : Bytes) ≠ fr
  rw [show (decide ((fr : Bytes) ≠ fr)) = true from decide_eq_true q1]
  refine ops_run15 (l' := [(2, .pointer (some ⟨b1, 0, none⟩)), (3, .pointer (some ⟨b2, 0, none⟩)), (4, .bool false), (26, .bool true)]) (by kernel_rfl) ?_
  refine ops_nil (nx_seq ?_)
  refine at_ift (by kernel_rfl) ?_
  refine at_seq (at_region ?_)
  refine ops_run1 (l' := [(2, .pointer (some ⟨b1, 0, none⟩)), (3, .pointer (some ⟨b2, 0, none⟩)), (4, .bool false)]) (by kernel_rfl) ?_
  refine ops_nil (nx_seq ?_)
  refine at_ret (rs := [.tmp 4]) (vs := [.bool false]) rfl (by kernel_rfl) ?_
  exact (q1 rfl).elim
  rw [show (decide ((fr : Bytes) ≠ fr)) = false from decide_eq_false q1]
  refine ops_run1 (l' := [(2, .pointer (some ⟨b1, 0, none⟩)), (3, .pointer (some ⟨b2, 0, none⟩)), (4, .bool false), (11, .bool false), (12, .pointer (some ⟨b1, 2, none⟩))]) (by kernel_rfl) ?_
  refine ops_loadB (i := 2) (v := .int .i64 at_) (by kernel_rfl) (by kernel_rfl) (by kernel_rfl) (by kernel_rfl) h3 (by kernel_rfl) ?_
  refine ops_run1 (l' := [(2, .pointer (some ⟨b1, 0, none⟩)), (3, .pointer (some ⟨b2, 0, none⟩)), (4, .bool false), (11, .bool false), (13, .int .i64 at_), (14, .pointer (some ⟨b2, 2, none⟩))]) (by kernel_rfl) ?_
  refine ops_loadB (i := 2) (v := .int .i64 at_) (by kernel_rfl) (by kernel_rfl) (by kernel_rfl) (by kernel_rfl) h2 (by kernel_rfl) ?_
  refine ops_run3 (l' := [(2, .pointer (some ⟨b1, 0, none⟩)), (3, .pointer (some ⟨b2, 0, none⟩)), (4, .bool false), (18, .bool (!(decide ((at_ : Int) = (at_ : Int)))))]) (by kernel_rfl) ?_
  by_cases q2 : (at_ : Int) = (at_ : Int)
  rw [show (decide ((at_ : Int) = (at_ : Int))) = true from decide_eq_true q2]
  refine ops_run1 (l' := [(2, .pointer (some ⟨b1, 0, none⟩)), (3, .pointer (some ⟨b2, 0, none⟩)), (4, .bool false), (18, .bool false), (19, .pointer (some ⟨b1, 1, none⟩))]) (by kernel_rfl) ?_
  refine ops_loadB (i := 1) (v := tv1) (by kernel_rfl) (by kernel_rfl) (by kernel_rfl) (by kernel_rfl) h3 (by kernel_rfl) ?_
  have h4 := p1.keep0 c1 (by omega)
  have h5 := h4.keep0 c2 (by omega)
  refine ops_len (e := 9) (by kernel_rfl) (by kernel_rfl) (by kernel_rfl) (by kernel_rfl) h5 ?_
  refine ops_run1 (l' := [(2, .pointer (some ⟨b1, 0, none⟩)), (3, .pointer (some ⟨b2, 0, none⟩)), (4, .bool false), (18, .bool false), (21, .int .i64 ((to.length : Int))), (22, .pointer (some ⟨b2, 1, none⟩))]) (by kernel_rfl) ?_
  refine ops_loadB (i := 1) (v := tv2) (by kernel_rfl) (by kernel_rfl) (by kernel_rfl) (by kernel_rfl) h2 (by kernel_rfl) ?_
  have h6 := p2.keep0 c1 (by omega)
  have h7 := h6.keep0 c2 (by omega)
  refine ops_len (e := 9) (by kernel_rfl) (by kernel_rfl) (by kernel_rfl) (by kernel_rfl) h7 ?_
  refine ops_run2 (l' := [(2, .pointer (some ⟨b1, 0, none⟩)), (3, .pointer (some ⟨b2, 0, none⟩)), (4, .bool false), (26, .bool (!(decide (((to.length : Int) : Int) = ((to.length : Int) : Int)))))]) (by kernel_rfl) ?_
  refine ops_nil (nx_seq ?_)
  refine at_ifn (((to.length : Int) : Int) = ((to.length : Int) : Int)) (by kernel_rfl) (fun q3 => ?_) (fun q3 => ?_)
  refine at_seq (at_region ?_)
  refine ops_run1 (l' := [(2, .pointer (some ⟨b1, 0, none⟩)), (3, .pointer (some ⟨b2, 0, none⟩)), (4, .bool false)]) (by kernel_rfl) ?_
  refine ops_nil (nx_seq ?_)
  refine at_ret (rs := [.tmp 4]) (vs := [.bool false]) rfl (by kernel_rfl) ?_
  exact (q3 rfl).elim
  refine at_skip (nx_seq (at_seq (at_seq (at_region ?_))))
  refine ops_run1 (l' := [(2, .pointer (some ⟨b1, 0, none⟩)), (3, .pointer (some ⟨b2, 0, none⟩)), (4, .bool false), (27, .pointer (some ⟨b1, 1, none⟩))]) (by kernel_rfl) ?_
  refine ops_loadB (i := 1) (v := tv1) (by kernel_rfl) (by kernel_rfl) (by kernel_rfl) (by kernel_rfl) h3 (by kernel_rfl) ?_
  refine ops_len (e := 9) (by kernel_rfl) (by kernel_rfl) (by kernel_rfl) (by kernel_rfl) h5 ?_
  refine ops_run1 (l' := [(2, .pointer (some ⟨b1, 0, none⟩)), (3, .pointer (some ⟨b2, 0, none⟩)), (4, .bool false), (29, .int .i64 ((to.length : Int))), (30, .int .i64 0)]) (by kernel_rfl) ?_
  refine ops_nil (nx_seq (at_block ?_))
  refine at_loop (X := Nat) (fun x_ => [(2, .pointer (some ⟨b1, 0, none⟩)), (3, .pointer (some ⟨b2, 0, none⟩)), (4, .bool false), (29, .int .i64 ((to.length : Int))), (30, .int .i64 ((x_ : Int)))]) (fun x_ W1 => Chg [] (w2.heap.size) w2 W1 ∧ (x_ ≤ to.length)) (fun x_ => to.length - x_) 0 (proj_sub [2, 3, 4, 29, 30] (by kernel_rfl)) ⟨(Chg.refl [] w2), (show 0 ≤ to.length by first | omega | (simp only [List.length_append, List.length_cons, List.length_nil, List.length_take, List.length_drop, List.length_map]; omega))⟩ ?_
  rintro k w3 ⟨h8, h9⟩
  replace h8 : Chg [] (w2.heap.size) w2 w3 := h8
  replace h9 : (k ≤ to.length) := h9
  have z9 := h8.size
  refine at_seq (at_region ?_)
  refine ops_run1 (l' := [(2, .pointer (some ⟨b1, 0, none⟩)), (3, .pointer (some ⟨b2, 0, none⟩)), (4, .bool false), (29, .int .i64 ((to.length : Int))), (30, .int .i64 ((k : Int))), (31, .bool (decide (((k : Int) : Int) < ((to.length : Int) : Int))))]) (by kernel_rfl) ?_
  refine ops_nil (nx_seq (at_seq ?_))
  refine at_ifp (((k : Int) : Int) < ((to.length : Int) : Int)) (by kernel_rfl) (fun q4 => ?_) (fun q4 => ?_)
  refine at_skip (nx_seq (at_seq (at_block (at_seq (at_region ?_)))))
  refine ops_run2 (l' := [(2, .pointer (some ⟨b1, 0, none⟩)), (3, .pointer (some ⟨b2, 0, none⟩)), (4, .bool false), (5, .int .i64 ((k : Int))), (29, .int .i64 ((to.length : Int))), (30, .int .i64 ((k : Int)))]) (by kernel_rfl) ?_
  refine ops_nil (nx_seq (at_seq ?_))
  have h10 := h3.keep0 h8 (by omega)
  have h11 := h2.keep0 h8 (by omega)
  have h12 := h5.keep0 h8 (by omega)
  have h13 := h7.keep0 h8 (by omega)
  refine at_draw (m := 11) (listed := (bm 11 0)) (fun W => Blk W b1 [S fr, tv1, .int .i64 at_] 26 ∧ Blk W b2 [S fr, tv2, .int .i64 at_] 26 ∧ Ss W lo1 hi1 tv1 to ∧ Ss W lo2 hi2 tv2 to ∧ True) (by kernel_rfl) (by kernel_rfl) (by kernel_rfl) (fun w4 c3 z10 _ _ => ?_)
  have z11 := c3.size
  have h14 := h10.keep0 c3 (by omega)
  have h15 := h11.keep0 c3 (by omega)
  have h16 := h12.keep0 c3 (by omega)
  have h17 := h13.keep0 c3 (by omega)
  refine ⟨⟨h14, h15, h16, h17, trivial⟩, ?_⟩
  refine any_takes [0] (fuel' := 10) (listed' := (bm 11 1)) (l' := [(2, .pointer (some ⟨b1, 0, none⟩)), (3, .pointer (some ⟨b2, 0, none⟩)), (4, .bool false), (5, .int .i64 ((k : Int))), (29, .int .i64 ((to.length : Int))), (30, .int .i64 ((k : Int))), (33, .pointer (some ⟨b1, 1, none⟩))]) panK_FB (by kernel_rfl) (by kernel_rfl) (by kernel_rfl) ?_
  refine any_load (i := 1) (j := 1) (listed' := (bm 11 3)) (v := tv1) panK_FB (by kernel_rfl) rfl (by kernel_rfl) (by kernel_rfl) (by kernel_rfl) (by kernel_rfl) (by kernel_rfl) (by kernel_rfl) (fun W hW => hW.1) (by kernel_rfl) ?_
  refine any_takes [2] (fuel' := 8) (listed' := (bm 11 7)) (l' := [(2, .pointer (some ⟨b1, 0, none⟩)), (3, .pointer (some ⟨b2, 0, none⟩)), (4, .bool false), (5, .int .i64 ((k : Int))), (29, .int .i64 ((to.length : Int))), (30, .int .i64 ((k : Int))), (34, tv1), (35, .int .i64 ((k : Int)))]) panK_FB (by kernel_rfl) (by kernel_rfl) (by kernel_rfl) ?_
  refine any_idx (q := 3) (listed' := (bm 11 15)) (e := 9) (i := (k : Int)) (kd := .i64) k panK_FB (by kernel_rfl) rfl (by kernel_rfl) (by kernel_rfl) (by kernel_rfl) (by kernel_rfl) (by kernel_rfl) (by kernel_rfl) (by kernel_rfl) (by kernel_rfl) h16 (by omega) (by first | omega | (simp only [List.length_append, List.length_cons, List.length_nil, List.length_take, List.length_drop, List.length_map]; omega)) (fun a1 h18 => ?_)
  refine any_loadC (i := 4) (listed' := (bm 11 31)) panK_FB (by kernel_rfl) rfl (by kernel_rfl) (by kernel_rfl) (by kernel_rfl) (by kernel_rfl) (by kernel_rfl) (by kernel_rfl) (fun W hW => cell_sAt (l := to) (j := k) (h18 W hW.2.2.1) (by first | omega | (simp only [List.length_append, List.length_cons, List.length_nil, List.length_take, List.length_drop, List.length_map]; omega))) ?_
  refine any_takes [5] (fuel' := 5) (listed' := (bm 11 63)) (l' := [(2, .pointer (some ⟨b1, 0, none⟩)), (3, .pointer (some ⟨b2, 0, none⟩)), (4, .bool false), (5, .int .i64 ((k : Int))), (29, .int .i64 ((to.length : Int))), (30, .int .i64 ((k : Int))), (37, S (to.getD k [])), (38, .pointer (some ⟨b2, 1, none⟩))]) panK_FB (by kernel_rfl) (by kernel_rfl) (by kernel_rfl) ?_
  refine any_load (i := 6) (j := 1) (listed' := (bm 11 127)) (v := tv2) panK_FB (by kernel_rfl) rfl (by kernel_rfl) (by kernel_rfl) (by kernel_rfl) (by kernel_rfl) (by kernel_rfl) (by kernel_rfl) (fun W hW => hW.2.1) (by kernel_rfl) ?_
  refine any_takes [7] (fuel' := 3) (listed' := (bm 11 255)) (l' := [(2, .pointer (some ⟨b1, 0, none⟩)), (3, .pointer (some ⟨b2, 0, none⟩)), (4, .bool false), (29, .int .i64 ((to.length : Int))), (30, .int .i64 ((k : Int))), (37, S (to.getD k [])), (39, tv2), (40, .int .i64 ((k : Int)))]) panK_FB (by kernel_rfl) (by kernel_rfl) (by kernel_rfl) ?_
  refine any_idx (q := 8) (listed' := (bm 11 511)) (e := 9) (i := (k : Int)) (kd := .i64) k panK_FB (by kernel_rfl) rfl (by kernel_rfl) (by kernel_rfl) (by kernel_rfl) (by kernel_rfl) (by kernel_rfl) (by kernel_rfl) (by kernel_rfl) (by kernel_rfl) h17 (by omega) (by first | omega | (simp only [List.length_append, List.length_cons, List.length_nil, List.length_take, List.length_drop, List.length_map]; omega)) (fun a2 h19 => ?_)
  refine any_loadC (i := 9) (listed' := (bm 11 1023)) panK_FB (by kernel_rfl) rfl (by kernel_rfl) (by kernel_rfl) (by kernel_rfl) (by kernel_rfl) (by kernel_rfl) (by kernel_rfl) (fun W hW => cell_sAt (l := to) (j := k) (h19 W hW.2.2.2.1) (by first | omega | (simp only [List.length_append, List.length_cons, List.length_nil, List.length_take, List.length_drop, List.length_map]; omega))) ?_
  refine any_1 10 (bm 11 2047) (by kernel_rfl) rfl (by kernel_rfl) ?_
  refine ops_neS (a := to.getD k []) (b := to.getD k []) (by kernel_rfl) (by kernel_rfl) (by kernel_rfl) (by kernel_rfl) ?_
  refine ops_nil ?_
  refine nx_any ⟨h14, h15, h16, h17, trivial⟩ ?_
  refine any_done (by kernel_rfl) ?_
  refine nx_seq ?_
  refine at_ifp ((to.getD k [] : Bytes) ≠ to.getD k []) (by kernel_rfl) (fun q5 => ?_) (fun q5 => ?_)
  refine at_seq (at_region ?_)
  refine ops_run1 (l' := [(2, .pointer (some ⟨b1, 0, none⟩)), (3, .pointer (some ⟨b2, 0, none⟩)), (4, .bool false), (29, .int .i64 ((to.length : Int))), (30, .int .i64 ((k : Int)))]) (by kernel_rfl) ?_
  refine ops_nil (nx_seq ?_)
  refine at_ret (rs := [.tmp 4]) (vs := [.bool false]) rfl (by kernel_rfl) ?_
  exact (q5 rfl).elim
  refine at_skip (nx_blk (nx_seq (at_region ?_)))
  refine ops_add (a := (k : Int)) (b := 1) (kd := .i64) (by kernel_rfl) (by kernel_rfl) (by kernel_rfl) (by kernel_rfl) (show (-9223372036854775808 : Int) ≤ ((k : Int)) + 1 by omega) (show ((k : Int)) + 1 ≤ (9223372036854775807 : Int) by omega) ?_
  refine ops_run1 (l' := [(2, .pointer (some ⟨b1, 0, none⟩)), (3, .pointer (some ⟨b2, 0, none⟩)), (4, .bool false), (29, .int .i64 ((to.length : Int))), (30, .int .i64 (((k : Int)) + 1))]) (by kernel_rfl) ?_
  refine ops_nil ?_
  refine nx_round ((k) + 1) (proj_sub [2, 3, 4, 29, 30] (by kernel_rfl)) ⟨(((Chg.refl [] w2).step0 h8 (by omega)).step0 c3 (by omega)), (show ((k) + 1) ≤ to.length by first | omega | (simp only [List.length_append, List.length_cons, List.length_nil, List.length_take, List.length_drop, List.length_map]; omega))⟩ (show to.length - ((k) + 1) < to.length - k by omega)
  refine at_exit (ex_seq (ex_inv (ex_here (nx_seq (at_seq (at_region ?_))))))
  refine ops_run1 (l' := [(4, .bool true)]) (by kernel_rfl) ?_
  refine ops_nil (nx_seq ?_)
  refine at_ret (rs := [.tmp 4]) (vs := [.bool true]) rfl (by kernel_rfl) ?_
  exact ⟨_, rfl, rfl, ((((Chg.refl [] w).step0 c1 (by omega)).step0 c2 (by omega)).step0 h8 (by omega))⟩
  rw [show (decide ((at_ : Int) = (at_ : Int))) = false from decide_eq_false q2]
  refine ops_run8 (l' := [(2, .pointer (some ⟨b1, 0, none⟩)), (3, .pointer (some ⟨b2, 0, none⟩)), (4, .bool false), (26, .bool true)]) (by kernel_rfl) ?_
  refine ops_nil (nx_seq ?_)
  refine at_ift (by kernel_rfl) ?_
  refine at_seq (at_region ?_)
  refine ops_run1 (l' := [(2, .pointer (some ⟨b1, 0, none⟩)), (3, .pointer (some ⟨b2, 0, none⟩)), (4, .bool false)]) (by kernel_rfl) ?_
  refine ops_nil (nx_seq ?_)
  refine at_ret (rs := [.tmp 4]) (vs := [.bool false]) rfl (by kernel_rfl) ?_
  exact (q2 rfl).elim
theorem same15_ok (m : Msg) {w : World} {lo1 hi1 lo2 hi2 lo3 hi3 lo4 hi4 : Nat} {tv1 tv2 bv1 bv2 : Value} (p1 : Ss w lo1 hi1 tv1 m.to) (p2 : Ss w lo2 hi2 tv2 m.to) (p3 : Bs w lo3 hi3 bv1 m.body) (p4 : Bs w lo4 hi4 bv2 m.body) : Pu Tryd.prog 12 #[.agg #[.int .i64 m.id, S m.cls, S m.fr, tv1, .int .i64 m.at_, bv1], .agg #[.int .i64 m.id, S m.cls, S m.fr, tv2, .int .i64 m.at_, bv2]] w (.bool true) := by
  have z1 := p1.hi_le
  have z2 := p1.len_le
  have z3 := p2.hi_le
  have z4 := p2.len_le
  have z5 := p3.hi_le
  have z6 := p3.len_le
  have z7 := p4.hi_le
  have z8 := p4.len_le
  refine enter (n := 33) (args := [.agg #[.int .i64 m.id, S m.cls, S m.fr, tv1, .int .i64 m.at_, bv1], .agg #[.int .i64 m.id, S m.cls, S m.fr, tv2, .int .i64 m.at_, bv2]]) Tryd.func12 rfl rfl (Nat.le_of_ble_eq_true (by kernel_rfl)) ?_
  refine at_seq (at_region ?_)
  refine ops_box (cs := [.int .i64 m.id, S m.cls, S m.fr, tv1, .int .i64 m.at_, bv1]) (by kernel_rfl) (by kernel_rfl) (by kernel_rfl) (fun b1 w1 e1 h1 c1 z9 => ?_)
  have z10 := c1.size
  refine ops_box (cs := [.int .i64 m.id, S m.cls, S m.fr, tv2, .int .i64 m.at_, bv2]) (by kernel_rfl) (by kernel_rfl) (by kernel_rfl) (fun b2 w2 e2 h2 c2 z11 => ?_)
  have z12 := c2.size
  refine ops_run1 (l' := [(2, .pointer (some ⟨b1, 0, none⟩)), (3, .pointer (some ⟨b2, 0, none⟩)), (4, .bool false)]) (by kernel_rfl) ?_
  refine ops_nil (nx_seq (at_seq (at_region ?_)))
  refine ops_run1 (l' := [(2, .pointer (some ⟨b1, 0, none⟩)), (3, .pointer (some ⟨b2, 0, none⟩)), (4, .bool false), (5, .pointer (some ⟨b1, 0, none⟩))]) (by kernel_rfl) ?_
  have h3 := h1.keep0 c2 (by omega)
  refine ops_loadB (i := 0) (v := .int .i64 m.id) (by kernel_rfl) (by kernel_rfl) (by kernel_rfl) (by kernel_rfl) h3 (by kernel_rfl) ?_
  refine ops_run1 (l' := [(2, .pointer (some ⟨b1, 0, none⟩)), (3, .pointer (some ⟨b2, 0, none⟩)), (4, .bool false), (6, .int .i64 m.id), (7, .pointer (some ⟨b2, 0, none⟩))]) (by kernel_rfl) ?_
  refine ops_loadB (i := 0) (v := .int .i64 m.id) (by kernel_rfl) (by kernel_rfl) (by kernel_rfl) (by kernel_rfl) h2 (by kernel_rfl) ?_
  refine ops_run2 (l' := [(2, .pointer (some ⟨b1, 0, none⟩)), (3, .pointer (some ⟨b2, 0, none⟩)), (4, .bool false), (10, .bool (decide ((m.id : Int) = (m.id : Int))))]) (by kernel_rfl) ?_
  by_cases q1 : (m.id : Int) = (m.id : Int)
  rw [show (decide ((m.id : Int) = (m.id : Int))) = true from decide_eq_true q1]
  refine ops_run1 (l' := [(2, .pointer (some ⟨b1, 0, none⟩)), (3, .pointer (some ⟨b2, 0, none⟩)), (4, .bool false), (10, .bool true), (11, .pointer (some ⟨b1, 1, none⟩))]) (by kernel_rfl) ?_
  refine ops_loadB (i := 1) (v := S m.cls) (by kernel_rfl) (by kernel_rfl) (by kernel_rfl) (by kernel_rfl) h3 (by kernel_rfl) ?_
  refine ops_run1 (l' := [(2, .pointer (some ⟨b1, 0, none⟩)), (3, .pointer (some ⟨b2, 0, none⟩)), (4, .bool false), (10, .bool true), (12, S m.cls), (13, .pointer (some ⟨b2, 1, none⟩))]) (by kernel_rfl) ?_
  refine ops_loadB (i := 1) (v := S m.cls) (by kernel_rfl) (by kernel_rfl) (by kernel_rfl) (by kernel_rfl) h2 (by kernel_rfl) ?_
  refine ops_eqS (a := m.cls) (b := m.cls) (by kernel_rfl) (by kernel_rfl) (by kernel_rfl) (by kernel_rfl) ?_
  refine ops_run2 (l' := [(2, .pointer (some ⟨b1, 0, none⟩)), (3, .pointer (some ⟨b2, 0, none⟩)), (4, .bool false), (17, .bool (decide ((m.cls : Bytes) = m.cls)))]) (by kernel_rfl) ?_
  by_cases q2 : (m.cls : Bytes) = m.cls
  rw [show (decide ((m.cls : Bytes) = m.cls)) = true from decide_eq_true q2]
  refine ops_run1 (l' := [(2, .pointer (some ⟨b1, 0, none⟩)), (3, .pointer (some ⟨b2, 0, none⟩)), (4, .bool false), (17, .bool true), (18, .pointer (some ⟨b1, 2, none⟩))]) (by kernel_rfl) ?_
  refine ops_loadS (i := 2) (vs := [S m.fr, tv1, .int .i64 m.at_]) 3 (by kernel_rfl) (by kernel_rfl) (by kernel_rfl) (by kernel_rfl) (by kernel_rfl) h3 (by kernel_rfl) (by kernel_rfl) ?_
  refine ops_run1 (l' := [(2, .pointer (some ⟨b1, 0, none⟩)), (3, .pointer (some ⟨b2, 0, none⟩)), (4, .bool false), (17, .bool true), (19, .agg #[S m.fr, tv1, .int .i64 m.at_]), (20, .pointer (some ⟨b2, 2, none⟩))]) (by kernel_rfl) ?_
  refine ops_loadS (i := 2) (vs := [S m.fr, tv2, .int .i64 m.at_]) 3 (by kernel_rfl) (by kernel_rfl) (by kernel_rfl) (by kernel_rfl) (by kernel_rfl) h2 (by kernel_rfl) (by kernel_rfl) ?_
  have h4 := p1.keep0 c1 (by omega)
  have h5 := h4.keep0 c2 (by omega)
  have h6 := p2.keep0 c1 (by omega)
  have h7 := h6.keep0 c2 (by omega)
  refine ops_callr (by kernel_rfl) (by kernel_rfl) (by kernel_rfl) (same11_ok m.fr m.to (m.at_) h5 h7) ?_
  rintro _ w3 ⟨rfl, c3⟩
  have z13 := c3.size
  refine ops_run3 (l' := [(3, .pointer (some ⟨b2, 0, none⟩)), (4, .bool false), (24, .bool true), (25, .pointer (some ⟨b1, 5, none⟩))]) (by kernel_rfl) ?_
  have h8 := h3.keep0 c3 (by omega)
  refine ops_loadB (i := 5) (v := bv1) (by kernel_rfl) (by kernel_rfl) (by kernel_rfl) (by kernel_rfl) h8 (by kernel_rfl) ?_
  have h9 := p3.keep0 c1 (by omega)
  have h10 := h9.keep0 c2 (by omega)
  have h11 := h10.keep0 c3 (by omega)
  refine ops_toS (b := m.body) (by kernel_rfl) (by kernel_rfl) (by kernel_rfl) (by kernel_rfl) (by kernel_rfl) h11 ?_
  refine ops_run1 (l' := [(4, .bool false), (24, .bool true), (27, S m.body), (28, .pointer (some ⟨b2, 5, none⟩))]) (by kernel_rfl) ?_
  have h12 := h2.keep0 c3 (by omega)
  refine ops_loadB (i := 5) (v := bv2) (by kernel_rfl) (by kernel_rfl) (by kernel_rfl) (by kernel_rfl) h12 (by kernel_rfl) ?_
  have h13 := p4.keep0 c1 (by omega)
  have h14 := h13.keep0 c2 (by omega)
  have h15 := h14.keep0 c3 (by omega)
  refine ops_toS (b := m.body) (by kernel_rfl) (by kernel_rfl) (by kernel_rfl) (by kernel_rfl) (by kernel_rfl) h15 ?_
  refine ops_eqS (a := m.body) (b := m.body) (by kernel_rfl) (by kernel_rfl) (by kernel_rfl) (by kernel_rfl) ?_
  refine ops_run2 (l' := [(4, .bool (decide ((m.body : Bytes) = m.body)))]) (by kernel_rfl) ?_
  refine ops_nil (nx_seq ?_)
  refine at_ret (rs := [.tmp 4]) (vs := [.bool (decide ((m.body : Bytes) = m.body))]) rfl (by kernel_rfl) ?_
  exact ⟨_, rfl, (congrArg Value.bool (decide_eq_true rfl)), ((((Chg.refl [] w).step0 c1 (by omega)).step0 c2 (by omega)).step0 c3 (by omega))⟩
  rw [show (decide ((m.cls : Bytes) = m.cls)) = false from decide_eq_false q2]
  refine ops_run16 (l' := [(4, .bool false)]) (by kernel_rfl) ?_
  refine ops_nil (nx_seq ?_)
  refine at_ret (rs := [.tmp 4]) (vs := [.bool false]) rfl (by kernel_rfl) ?_
  exact (q2 rfl).elim
  rw [show (decide ((m.id : Int) = (m.id : Int))) = false from decide_eq_false q1]
  refine ops_run23 (l' := [(4, .bool false)]) (by kernel_rfl) ?_
  refine ops_nil (nx_seq ?_)
  refine at_ret (rs := [.tmp 4]) (vs := [.bool false]) rfl (by kernel_rfl) ?_
  exact (q1 rfl).elim

end Go.Proofs.YtnjkdnbabogcjaaDoor
