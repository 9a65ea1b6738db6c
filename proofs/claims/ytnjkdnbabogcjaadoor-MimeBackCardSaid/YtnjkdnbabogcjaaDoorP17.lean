/- A walk, printed by a program of my own (wip/gen/walk.py) from a script of mine. -/
import Derived.Test.YtnjkdnbabogcjaaDoorProg
import Derived.Test.YtnjkdnbabogcjaaDoorL0
import Derived.Test.YtnjkdnbabogcjaaDoorP16
set_option maxHeartbeats 4000000
set_option linter.unusedVariables false
set_option linter.unusedSimpArgs false
set_option maxRecDepth 100000
namespace Go.Proofs.YtnjkdnbabogcjaaDoor
open Go Go.RowKit Go.Kw

theorem same11m_ok (fr : Bytes) (to : List Bytes) (at_ : Int) {w : World} {lo1 hi1 lo2 hi2 : Nat} {tv1 tv2 : Value} (p1 : Ss w lo1 hi1 tv1 to) (p2 : Ss w lo2 hi2 tv2 to) : Pu Tryd.prog 16 #[.agg #[S fr, tv1, .int .i64 at_], .agg #[S fr, tv2, .int .i64 at_]] w (.bool true) := by
  have z1 := p1.hi_le
  have z2 := p1.len_le
  have z3 := p2.hi_le
  have z4 := p2.len_le
  refine enter (n := 45) (args := [.agg #[S fr, tv1, .int .i64 at_], .agg #[S fr, tv2, .int .i64 at_]]) Tryd.func16 rfl rfl (Nat.le_of_ble_eq_true (by kernel_rfl)) ?_
  refine at_seq (at_region ?_)
  refine ops_box (cs := [S fr, tv1, .int .i64 at_]) (by kernel_rfl) (by kernel_rfl) (by kernel_rfl) (fun b1 w1 e1 h1 c1 z5 => ?_)
  have z6 := c1.size
  refine ops_box (cs := [S fr, tv2, .int .i64 at_]) (by kernel_rfl) (by kernel_rfl) (by kernel_rfl) (fun b2 w2 e2 h2 c2 z7 => ?_)
  have z8 := c2.size
  refine ops_run1 (l' := [(2, .pointer (some ⟨b1, 0, none⟩)), (3, .pointer (some ⟨b2, 0, none⟩)), (4, .bool false)]) (by kernel_rfl) ?_
  refine ops_nil (nx_seq (at_seq (at_seq (at_region ?_))))
  refine ops_run1 (l' := [(2, .pointer (some ⟨b1, 0, none⟩)), (3, .pointer (some ⟨b2, 0, none⟩)), (4, .bool false), (6, .pointer (some ⟨b1, 0, none⟩))]) (by kernel_rfl) ?_
  have h3 := h1.keep0 c2 (by omega)
  refine ops_loadB (i := 0) (v := S fr) (by kernel_rfl) (by kernel_rfl) (by kernel_rfl) (by kernel_rfl) h3 (by kernel_rfl) ?_
  refine ops_run1 (l' := [(2, .pointer (some ⟨b1, 0, none⟩)), (3, .pointer (some ⟨b2, 0, none⟩)), (4, .bool false), (7, S fr), (8, .pointer (some ⟨b2, 0, none⟩))]) (by kernel_rfl) ?_
  refine ops_loadB (i := 0) (v := S fr) (by kernel_rfl) (by kernel_rfl) (by kernel_rfl) (by kernel_rfl) h2 (by kernel_rfl) ?_
  refine ops_neS (a := fr) (b := fr) (by kernel_rfl) (by kernel_rfl) (by kernel_rfl) (by kernel_rfl) ?_
  refine ops_run1 (l' := [(2, .pointer (some ⟨b1, 0, none⟩)), (3, .pointer (some ⟨b2, 0, none⟩)), (4, .bool false), (11, .bool (decide ((fr : Bytes) ≠ fr)))]) (by kernel_rfl) ?_
  by_cases q1 : (fr : Bytes) ≠ fr
  rw [show (decide ((fr : Bytes) ≠ fr)) = true from decide_eq_true q1]
  refine ops_run15 (l' := [(2, .pointer (some ⟨b1, 0, none⟩)), (3, .pointer (some ⟨b2, 0, none⟩)), (4, .bool false), (26, .bool true)]) (by kernel_rfl) ?_
  refine ops_nil (nx_seq ?_)
  refine at_ift (by kernel_rfl) ?_
  refine at_seq (at_region ?_)
  refine ops_run1 (l' := [(2, .pointer (some ⟨b1, 0, none⟩)), (3, .pointer (some ⟨b2, 0, none⟩)), (4, .bool false)]) (by kernel_rfl) ?_
  refine ops_nil (nx_seq ?_)
  refine at_ret (rs := [.tmp 4]) (vs := [.bool false]) rfl (by kernel_rfl) ?_
  exact (q1 rfl).elim
  rw [show (decide ((fr : Bytes) ≠ fr)) = false from decide_eq_false q1]
  refine ops_run1 (l' := [(2, .pointer (some ⟨b1, 0, none⟩)), (3, .pointer (some ⟨b2, 0, none⟩)), (4, .bool false), (11, .bool false), (12, .pointer (some ⟨b1, 2, none⟩))]) (by kernel_rfl) ?_
  refine ops_loadB (i := 2) (v := .int .i64 at_) (by kernel_rfl) (by kernel_rfl) (by kernel_rfl) (by kernel_rfl) h3 (by kernel_rfl) ?_
  refine ops_run1 (l' := [(2, .pointer (some ⟨b1, 0, none⟩)), (3, .pointer (some ⟨b2, 0, none⟩)), (4, .bool false), (11, .bool false), (13, .int .i64 at_), (14, .pointer (some ⟨b2, 2, none⟩))]) (by kernel_rfl) ?_
  refine ops_loadB (i := 2) (v := .int .i64 at_) (by kernel_rfl) (by kernel_rfl) (by kernel_rfl) (by kernel_rfl) h2 (by kernel_rfl) ?_
  refine ops_run3 (l' := [(2, .pointer (some ⟨b1, 0, none⟩)), (3, .pointer (some ⟨b2, 0, none⟩)), (4, .bool false), (18, .bool (!(decide ((at_ : Int) = (at_ : Int)))))]) (by kernel_rfl) ?_
  by_cases q2 : (at_ : Int) = (at_ : Int)
  rw [show (decide ((at_ : Int) = (at_ : Int))) = true from decide_eq_true q2]
  refine ops_run1 (l' := [(2, .pointer (some ⟨b1, 0, none⟩)), (3, .pointer (some ⟨b2, 0, none⟩)), (4, .bool false), (18, .bool false), (19, .pointer (some ⟨b1, 1, none⟩))]) (by kernel_rfl) ?_
  refine ops_loadB (i := 1) (v := tv1) (by kernel_rfl) (by kernel_rfl) (by kernel_rfl) (by kernel_rfl) h3 (by kernel_rfl) ?_
  have h4 := p1.keep0 c1 (by omega)
  have h5 := h4.keep0 c2 (by omega)
  refine ops_len (e := 9) (by kernel_rfl) (by kernel_rfl) (by kernel_rfl) (by kernel_rfl) h5 ?_
  refine ops_run1 (l' := [(2, .pointer (some ⟨b1, 0, none⟩)), (3, .pointer (some ⟨b2, 0, none⟩)), (4, .bool false), (18, .bool false), (21, .int .i64 ((to.length : Int))), (22, .pointer (some ⟨b2, 1, none⟩))]) (by kernel_rfl) ?_
  refine ops_loadB (i := 1) (v := tv2) (by kernel_rfl) (by kernel_rfl) (by kernel_rfl) (by kernel_rfl) h2 (by kernel_rfl) ?_
  have h6 := p2.keep0 c1 (by omega)
  have h7 := h6.keep0 c2 (by omega)
  refine ops_len (e := 9) (by kernel_rfl) (by kernel_rfl) (by kernel_rfl) (by kernel_rfl) h7 ?_
  refine ops_run2 (l' := [(2, .pointer (some ⟨b1, 0, none⟩)), (3, .pointer (some ⟨b2, 0, none⟩)), (4, .bool false), (26, .bool (!(decide (((to.length : Int) : Int) = ((to.length : Int) : Int)))))]) (by kernel_rfl) ?_
  refine ops_nil (nx_seq ?_)
  refine at_ifn (((to.length : Int) : Int) = ((to.length : Int) : Int)) (by kernel_rfl) (fun q3 => ?_) (fun q3 => ?_)
  refine at_seq (at_region ?_)
  refine ops_run1 (l' := [(2, .pointer (some ⟨b1, 0, none⟩)), (3, .pointer (some ⟨b2, 0, none⟩)), (4, .bool false)]) (by kernel_rfl) ?_
  refine ops_nil (nx_seq ?_)
  refine at_ret (rs := [.tmp 4]) (vs := [.bool false]) rfl (by kernel_rfl) ?_
  exact (q3 rfl).elim
  refine at_skip (nx_seq (at_seq (at_seq (at_region ?_))))
  refine ops_run1 (l' := [(2, .pointer (some ⟨b1, 0, none⟩)), (3, .pointer (some ⟨b2, 0, none⟩)), (4, .bool false), (27, .pointer (some ⟨b1, 1, none⟩))]) (by kernel_rfl) ?_
  refine ops_loadB (i := 1) (v := tv1) (by kernel_rfl) (by kernel_rfl) (by kernel_rfl) (by kernel_rfl) h3 (by kernel_rfl) ?_
  refine ops_len (e := 9) (by kernel_rfl) (by kernel_rfl) (by kernel_rfl) (by kernel_rfl) h5 ?_
  refine ops_run1 (l' := [(2, .pointer (some ⟨b1, 0, none⟩)), (3, .pointer (some ⟨b2, 0, none⟩)), (4, .bool false), (29, .int .i64 ((to.length : Int))), (30, .int .i64 0)]) (by kernel_rfl) ?_
  refine ops_nil (nx_seq (at_block ?_))
  refine at_loop (X := Nat) (fun x_ => [(2, .pointer (some ⟨b1, 0, none⟩)), (3, .pointer (some ⟨b2, 0, none⟩)), (4, .bool false), (29, .int .i64 ((to.length : Int))), (30, .int .i64 ((x_ : Int)))]) (fun x_ W1 => Chg [] (w2.heap.size) w2 W1 ∧ (x_ ≤ to.length)) (fun x_ => to.length - x_) 0 (proj_sub [2, 3, 4, 29, 30] (by kernel_rfl)) ⟨(Chg.refl [] w2), (show 0 ≤ to.length by first | omega | (simp only [List.length_append, List.length_cons, List.length_nil, List.length_take, List.length_drop, List.length_map]; omega))⟩ ?_
  rintro k w3 ⟨h8, h9⟩
  replace h8 : Chg [] (w2.heap.size) w2 w3 := h8
  replace h9 : (k ≤ to.length) := h9
  have z9 := h8.size
  refine at_seq (at_region ?_)
  refine ops_run1 (l' := [(2, .pointer (some ⟨b1, 0, none⟩)), (3, .pointer (some ⟨b2, 0, none⟩)), (4, .bool false), (29, .int .i64 ((to.length : Int))), (30, .int .i64 ((k : Int))), (31, .bool (decide (((k : Int) : Int) < ((to.length : Int) : Int))))]) (by kernel_rfl) ?_
  refine ops_nil (nx_seq (at_seq ?_))
  refine at_ifp (((k : Int) : Int) < ((to.length : Int) : Int)) (by kernel_rfl) (fun q4 => ?_) (fun q4 => ?_)
  refine at_skip (nx_seq (at_seq (at_block (at_seq (at_region ?_)))))
  refine ops_run2 (l' := [(2, .pointer (some ⟨b1, 0, none⟩)), (3, .pointer (some ⟨b2, 0, none⟩)), (4, .bool false), (5, .int .i64 ((k : Int))), (29, .int .i64 ((to.length : Int))), (30, .int .i64 ((k : Int)))]) (by kernel_rfl) ?_
  refine ops_nil (nx_seq (at_seq ?_))
  have h10 := h3.keep0 h8 (by omega)
  have h11 := h2.keep0 h8 (by omega)
  have h12 := h5.keep0 h8 (by omega)
  have h13 := h7.keep0 h8 (by omega)
  refine at_draw (m := 11) (listed := (bm 11 0)) (fun W => Blk W b1 [S fr, tv1, .int .i64 at_] 26 ∧ Blk W b2 [S fr, tv2, .int .i64 at_] 26 ∧ Ss W lo1 hi1 tv1 to ∧ Ss W lo2 hi2 tv2 to ∧ True) (by kernel_rfl) (by kernel_rfl) (by kernel_rfl) (fun w4 c3 z10 _ _ => ?_)
  have z11 := c3.size
  have h14 := h10.keep0 c3 (by omega)
  have h15 := h11.keep0 c3 (by omega)
  have h16 := h12.keep0 c3 (by omega)
  have h17 := h13.keep0 c3 (by omega)
  refine ⟨⟨h14, h15, h16, h17, trivial⟩, ?_⟩
  refine any_takes [0] (fuel' := 10) (listed' := (bm 11 1)) (l' := [(2, .pointer (some ⟨b1, 0, none⟩)), (3, .pointer (some ⟨b2, 0, none⟩)), (4, .bool false), (5, .int .i64 ((k : Int))), (29, .int .i64 ((to.length : Int))), (30, .int .i64 ((k : Int))), (33, .pointer (some ⟨b1, 1, none⟩))]) panK_FB (by kernel_rfl) (by kernel_rfl) (by kernel_rfl) ?_
  refine any_load (i := 1) (j := 1) (listed' := (bm 11 3)) (v := tv1) panK_FB (by kernel_rfl) rfl (by kernel_rfl) (by kernel_rfl) (by kernel_rfl) (by kernel_rfl) (by kernel_rfl) (by kernel_rfl) (fun W hW => hW.1) (by kernel_rfl) ?_
  refine any_takes [2] (fuel' := 8) (listed' := (bm 11 7)) (l' := [(2, .pointer (some ⟨b1, 0, none⟩)), (3, .pointer (some ⟨b2, 0, none⟩)), (4, .bool false), (5, .int .i64 ((k : Int))), (29, .int .i64 ((to.length : Int))), (30, .int .i64 ((k : Int))), (34, tv1), (35, .int .i64 ((k : Int)))]) panK_FB (by kernel_rfl) (by kernel_rfl) (by kernel_rfl) ?_
  refine any_idx (q := 3) (listed' := (bm 11 15)) (e := 9) (i := (k : Int)) (kd := .i64) k panK_FB (by kernel_rfl) rfl (by kernel_rfl) (by kernel_rfl) (by kernel_rfl) (by kernel_rfl) (by kernel_rfl) (by kernel_rfl) (by kernel_rfl) (by kernel_rfl) h16 (by omega) (by first | omega | (simp only [List.length_append, List.length_cons, List.length_nil, List.length_take, List.length_drop, List.length_map]; omega)) (fun a1 h18 => ?_)
  refine any_loadC (i := 4) (listed' := (bm 11 31)) panK_FB (by kernel_rfl) rfl (by kernel_rfl) (by kernel_rfl) (by kernel_rfl) (by kernel_rfl) (by kernel_rfl) (by kernel_rfl) (fun W hW => cell_sAt (l := to) (j := k) (h18 W hW.2.2.1) (by first | omega | (simp only [List.length_append, List.length_cons, List.length_nil, List.length_take, List.length_drop, List.length_map]; omega))) ?_
  refine any_takes [5] (fuel' := 5) (listed' := (bm 11 63)) (l' := [(2, .pointer (some ⟨b1, 0, none⟩)), (3, .pointer (some ⟨b2, 0, none⟩)), (4, .bool false), (5, .int .i64 ((k : Int))), (29, .int .i64 ((to.length : Int))), (30, .int .i64 ((k : Int))), (37, S (to.getD k [])), (38, .pointer (some ⟨b2, 1, none⟩))]) panK_FB (by kernel_rfl) (by kernel_rfl) (by kernel_rfl) ?_
  refine any_load (i := 6) (j := 1) (listed' := (bm 11 127)) (v := tv2) panK_FB (by kernel_rfl) rfl (by kernel_rfl) (by kernel_rfl) (by kernel_rfl) (by kernel_rfl) (by kernel_rfl) (by kernel_rfl) (fun W hW => hW.2.1) (by kernel_rfl) ?_
  refine any_takes [7] (fuel' := 3) (listed' := (bm 11 255)) (l' := [(2, .pointer (some ⟨b1, 0, none⟩)), (3, .pointer (some ⟨b2, 0, none⟩)), (4, .bool false), (29, .int .i64 ((to.length : Int))), (30, .int .i64 ((k : Int))), (37, S (to.getD k [])), (39, tv2), (40, .int .i64 ((k : Int)))]) panK_FB (by kernel_rfl) (by kernel_rfl) (by kernel_rfl) ?_
  refine any_idx (q := 8) (listed' := (bm 11 511)) (e := 9) (i := (k : Int)) (kd := .i64) k panK_FB (by kernel_rfl) rfl (by kernel_rfl) (by kernel_rfl) (by kernel_rfl) (by kernel_rfl) (by kernel_rfl) (by kernel_rfl) (by kernel_rfl) (by kernel_rfl) h17 (by omega) (by first | omega | (simp only [List.length_append, List.length_cons, List.length_nil, List.length_take, List.length_drop, List.length_map]; omega)) (fun a2 h19 => ?_)
  refine any_loadC (i := 9) (listed' := (bm 11 1023)) panK_FB (by kernel_rfl) rfl (by kernel_rfl) (by kernel_rfl) (by kernel_rfl) (by kernel_rfl) (by kernel_rfl) (by kernel_rfl) (fun W hW => cell_sAt (l := to) (j := k) (h19 W hW.2.2.2.1) (by first | omega | (simp only [List.length_append, List.length_cons, List.length_nil, List.length_take, List.length_drop, List.length_map]; omega))) ?_
  refine any_neS (q_ := 10) (listed' := (bm 11 2047)) (a := to.getD k []) (b := to.getD k []) panK_FB (by kernel_rfl) rfl (by kernel_rfl) (by kernel_rfl) (by kernel_rfl) (by kernel_rfl) (by kernel_rfl) (by kernel_rfl) ?_
  refine any_done (by kernel_rfl) ?_
  refine nx_seq ?_
  refine at_ifp ((to.getD k [] : Bytes) ≠ to.getD k []) (by kernel_rfl) (fun q5 => ?_) (fun q5 => ?_)
  refine at_seq (at_region ?_)
  refine ops_run1 (l' := [(2, .pointer (some ⟨b1, 0, none⟩)), (3, .pointer (some ⟨b2, 0, none⟩)), (4, .bool false), (29, .int .i64 ((to.length : Int))), (30, .int .i64 ((k : Int)))]) (by kernel_rfl) ?_
  refine ops_nil (nx_seq ?_)
  refine at_ret (rs := [.tmp 4]) (vs := [.bool false]) rfl (by kernel_rfl) ?_
  exact (q5 rfl).elim
  refine at_skip (nx_blk (nx_seq (at_region ?_)))
  refine ops_add (a := (k : Int)) (b := 1) (kd := .i64) (by kernel_rfl) (by kernel_rfl) (by kernel_rfl) (by kernel_rfl) (show (-9223372036854775808 : Int) ≤ ((k : Int)) + 1 by omega) (show ((k : Int)) + 1 ≤ (9223372036854775807 : Int) by omega) ?_
  refine ops_run1 (l' := [(2, .pointer (some ⟨b1, 0, none⟩)), (3, .pointer (some ⟨b2, 0, none⟩)), (4, .bool false), (29, .int .i64 ((to.length : Int))), (30, .int .i64 (((k : Int)) + 1))]) (by kernel_rfl) ?_
  refine ops_nil ?_
  refine nx_round ((k) + 1) (proj_sub [2, 3, 4, 29, 30] (by kernel_rfl)) ⟨(((Chg.refl [] w2).step0 h8 (by omega)).step0 c3 (by omega)), (show ((k) + 1) ≤ to.length by first | omega | (simp only [List.length_append, List.length_cons, List.length_nil, List.length_take, List.length_drop, List.length_map]; omega))⟩ (show to.length - ((k) + 1) < to.length - k by omega)
  refine at_exit (ex_seq (ex_inv (ex_here (nx_seq (at_seq (at_region ?_))))))
  refine ops_run1 (l' := [(4, .bool true)]) (by kernel_rfl) ?_
  refine ops_nil (nx_seq ?_)
  refine at_ret (rs := [.tmp 4]) (vs := [.bool true]) rfl (by kernel_rfl) ?_
  exact ⟨_, rfl, rfl, ((((Chg.refl [] w).step0 c1 (by omega)).step0 c2 (by omega)).step0 h8 (by omega))⟩
  rw [show (decide ((at_ : Int) = (at_ : Int))) = false from decide_eq_false q2]
  refine ops_run8 (l' := [(2, .pointer (some ⟨b1, 0, none⟩)), (3, .pointer (some ⟨b2, 0, none⟩)), (4, .bool false), (26, .bool true)]) (by kernel_rfl) ?_
  refine ops_nil (nx_seq ?_)
  refine at_ift (by kernel_rfl) ?_
  refine at_seq (at_region ?_)
  refine ops_run1 (l' := [(2, .pointer (some ⟨b1, 0, none⟩)), (3, .pointer (some ⟨b2, 0, none⟩)), (4, .bool false)]) (by kernel_rfl) ?_
  refine ops_nil (nx_seq ?_)
  refine at_ret (rs := [.tmp 4]) (vs := [.bool false]) rfl (by kernel_rfl) ?_
  exact (q2 rfl).elim
theorem read_ok {w : World} {lo hi : Nat} {rv : Value} {r : Bytes} (hr : Bs w lo hi rv r) (hs : r.length ≤ 1000000) (hg : Gl w) : Rt Tryd.prog 14 #[rv] w fun u w' => Chg [] w.heap.size w w' ∧ ((∃ (fr : Bytes) (to : List Bytes) (at_ : Int) (b : Bytes) (k : Nat) (tv bv : Value), Wit r fr to at_ b k ∧ u = .tuple #[.agg #[S fr, tv, .int .i64 at_], bv, .int .i64 0] ∧ Ss w' w.heap.size w'.heap.size tv to ∧ Bs w' w.heap.size w'.heap.size bv b) ∨ (NoRep r ∧ u = .tuple #[.agg #[S [], .slice none 0 0, .int .i64 0], .slice none 0 0, .int .i64 110])) := by
  have hgs := hg.size
  have hhi := hr.hi_le
  refine enter (n := 13) (args := [rv]) Tryd.func14 rfl rfl (Nat.le_of_ble_eq_true (by kernel_rfl)) ?_
  refine at_seq (at_region ?_)
  refine ops_box (cs := [rv]) (by kernel_rfl) (by kernel_rfl) (cells_opq (v := rv) (by kernel_rfl) hr.cells1) (fun b1 w1 e1 h1 c1 z1 => ?_)
  have z2 := c1.size
  refine ops_alloc (z := .agg #[S [], .slice none 0 0, .int .i64 0]) (cs := [S [], .slice none 0 0, .int .i64 0]) (by kernel_rfl) (by kernel_rfl) (by kernel_rfl) (by kernel_rfl) (fun b2 w2 e2 h2 c2 z3 => ?_)
  have z4 := c2.size
  refine ops_alloc (z := .slice none 0 0) (cs := [.slice none 0 0]) (by kernel_rfl) (by kernel_rfl) (by kernel_rfl) (by kernel_rfl) (fun b3 w3 e3 h3 c3 z5 => ?_)
  have z6 := c3.size
  refine ops_run1 (l' := [(1, .pointer (some ⟨b1, 0, none⟩)), (2, .pointer (some ⟨b2, 0, none⟩)), (3, .pointer (some ⟨b3, 0, none⟩)), (4, .int .i64 0)]) (by kernel_rfl) ?_
  refine ops_nil (nx_seq (at_seq (at_region ?_)))
  refine ops_run1 (l' := [(2, .pointer (some ⟨b2, 0, none⟩)), (3, .pointer (some ⟨b3, 0, none⟩)), (4, .int .i64 0), (5, .func (.func 47) #[] #[.pointer (some ⟨b1, 0, none⟩), .pointer (some ⟨b2, 0, none⟩), .pointer (some ⟨b3, 0, none⟩)])]) (by kernel_rfl) ?_
  have h4 := h1.keep0 c2 (by omega)
  have h5 := h4.keep0 c3 (by omega)
  have h6 := h2.keep0 c3 (by omega)
  have h7 := hr.keep0 c1 (by omega)
  have h8 := h7.keep0 c2 (by omega)
  have h9 := h8.keep0 c3 (by omega)
  have h10 := hg.keep0 c1 (by omega)
  have h11 := h10.keep0 c2 (by omega)
  have h12 := h11.keep0 c3 (by omega)
  refine ops_callr (by kernel_rfl) (by kernel_rfl) (by kernel_rfl) (mime_caught 47 [.pointer (some ⟨b1, 0, none⟩), .pointer (some ⟨b2, 0, none⟩), .pointer (some ⟨b3, 0, none⟩)] (fun _ _ => rfl) (fun W => ∃ (fr : Bytes) (to : List Bytes) (at_ : Int) (b : Bytes) (k : Nat) (tv bv : Value), Wit r fr to at_ b k ∧ Blk W b2 [S fr, tv, .int .i64 at_] 26 ∧ Blk W b3 [bv] 22 ∧ Ss W (w3.heap.size + 1) W.heap.size tv to ∧ Bs W (w3.heap.size + 1) W.heap.size bv b) (fun X W => X = 110 ∧ NoRep r ∧ ∃ c0 c1 c2 c3, Blk W b2 [c0, c1, c2] 26 ∧ Blk W b3 [c3] 22) [b2, b3] w3 (by intro y hy; simp only [List.mem_cons, List.not_mem_nil, or_false] at hy <;> omega) (fun W1 C1 Z1 => (read1_ok (h5.keep0 C1 (by omega)) (h6.keep0 C1 (by omega)) (h3.keep0 C1 (by omega)) (h9.keep0 C1 (by omega)) hs (by omega) (by omega) (by omega) (by omega) (by omega) (by omega) (h12.keep0 C1 (by omega)) (by omega) (by omega)).mono (fun VV WW HH => (by obtain ⟨⟨fr, to, at_, b, k, tv, bv, q1, q2, q3, q4, q5⟩, q6⟩ := HH; rw [Z1] at q4 q5; exact ⟨⟨fr, to, at_, b, k, tv, bv, q1, q2, q3, q4, q5⟩, q6⟩)) (fun ch WW HH => ⟨_, HH.1, ⟨rfl, HH.2.1⟩, HH.2.2⟩))) ?_
  rintro _ w6 ⟨w4, w5, c4, c5, c6, (⟨rfl, h13⟩ | ⟨x1, rfl, h13⟩)⟩
  have z7 := c4.size
  have z8 := c5.size
  obtain ⟨fr, to, at_, b, k, tv, bv, hwit, hrb, hrc, hrt, hrd⟩ := h13
  have hrl := hrb.lt
  have hrl2 := hrc.lt
  have z9 := c6.size
  refine ops_run1 (l' := [(2, .pointer (some ⟨b2, 0, none⟩)), (3, .pointer (some ⟨b3, 0, none⟩)), (4, .int .i64 0)]) (by kernel_rfl) ?_
  refine ops_nil (nx_seq (at_seq (at_seq (at_region ?_))))
  refine ops_run2 (l' := [(2, .pointer (some ⟨b2, 0, none⟩)), (3, .pointer (some ⟨b3, 0, none⟩)), (4, .int .i64 0), (8, .bool false)]) (by kernel_rfl) ?_
  refine ops_nil (nx_seq ?_)
  refine at_iff (by kernel_rfl) ?_
  refine at_skip (nx_seq (at_seq ?_))
  have h14 := h5.keep0 c4 (by omega)
  have h15 := h14.keep c5 (by omega) (by simp only [List.mem_cons, List.not_mem_nil, or_false, not_or]; omega)
  have h16 := h15.keep1 c6 (by omega) (by omega)
  have h17 := hrb.keep1 c6 (by omega) (by omega)
  have h18 := hrc.keep1 c6 (by omega) (by omega)
  refine at_draw (m := 5) (listed := (bm 5 0)) (fun W => Blk W b1 [rv] 22 ∧ Blk W b2 [S fr, tv, .int .i64 at_] 26 ∧ Blk W b3 [bv] 22 ∧ True) (by kernel_rfl) (by kernel_rfl) (by kernel_rfl) (fun w7 c7 z10 _ _ => ?_)
  have z11 := c7.size
  have h19 := h16.keep0 c7 (by omega)
  have h20 := h17.keep0 c7 (by omega)
  have h21 := h18.keep0 c7 (by omega)
  refine ⟨⟨h19, h20, h21, trivial⟩, ?_⟩
  refine any_loadS (i := 0) (j := 0) (listed' := (bm 5 1)) (vs := [S fr, tv, .int .i64 at_]) 3 panK_FB (by kernel_rfl) rfl (by kernel_rfl) (by kernel_rfl) (by kernel_rfl) (by kernel_rfl) (by kernel_rfl) (by kernel_rfl) (by kernel_rfl) (fun W hW => hW.2.1) (by kernel_rfl) (by kernel_rfl) ?_
  refine any_load (i := 1) (j := 0) (listed' := (bm 5 3)) (v := bv) panK_FB (by kernel_rfl) rfl (by kernel_rfl) (by kernel_rfl) (by kernel_rfl) (by kernel_rfl) (by kernel_rfl) (by kernel_rfl) (fun W hW => hW.2.2.1) (by kernel_rfl) ?_
  refine any_1 2 (bm 5 7) (by kernel_rfl) rfl (by kernel_rfl) ?_
  have h23 := hrt.keep1 c6 (by omega) (by omega)
  have h24 := h23.keep0 c7 (by omega)
  refine ops_storeS (i := 0) (vs := [S fr, tv, .int .i64 at_]) [S fr, tv, .int .i64 at_] (by kernel_rfl) (by kernel_rfl) (by kernel_rfl) (by kernel_rfl) (by simp only [List.all_cons, List.all_nil, h24.one, Bool.and_true, Bool.true_and] <;> rfl) (by kernel_rfl) h20 (by kernel_rfl) (by kernel_rfl) (fun w8 h22 c8 z12 => ?_)
  have z13 := c8.size
  refine ops_nil ?_
  have h25 := h19.keep1 c8 (by omega) (by omega)
  have h26 := h21.keep1 c8 (by omega) (by omega)
  refine nx_any ⟨h25, h22, h26, trivial⟩ ?_
  refine any_1 3 (bm 5 15) (by kernel_rfl) rfl (by kernel_rfl) ?_
  have h28 := hrd.keep1 c6 (by omega) (by omega)
  have h29 := h28.keep0 c7 (by omega)
  have h30 := h29.keep1 c8 (by omega) (by omega)
  refine ops_store (i := 0) (v := bv) [bv] (by kernel_rfl) (by kernel_rfl) (by kernel_rfl) (by kernel_rfl) h30.one (by kernel_rfl) h26 (by kernel_rfl) (by kernel_rfl) (fun w9 h27 c9 z14 => ?_)
  have z15 := c9.size
  refine ops_nil ?_
  have h31 := h25.keep1 c9 (by omega) (by omega)
  have h32 := h22.keep1 c9 (by omega) (by omega)
  refine nx_any ⟨h31, h32, h27, trivial⟩ ?_
  refine any_takes [4] (fuel' := 0) (listed' := (bm 5 31)) (l' := [(2, .pointer (some ⟨b2, 0, none⟩)), (3, .pointer (some ⟨b3, 0, none⟩)), (4, .int .i64 0)]) panK_FB (by kernel_rfl) (by kernel_rfl) (by kernel_rfl) ?_
  refine any_done (by kernel_rfl) ?_
  refine nx_seq ?_
  refine at_retV (rs := [.cell 2 26, .cell 3 22, .tmp 4]) (vs := [.agg #[S fr, tv, .int .i64 at_], bv, .int .i64 0]) rfl (ResV.cellS (by kernel_rfl) h32 (by kernel_rfl) (by kernel_rfl) (ResV.cell (by kernel_rfl) h27 (by kernel_rfl) (ResV.tmp (by kernel_rfl) ResV.nil))) ?_
  have h33 := h24.keep1 c8 (by omega) (by omega)
  have h34 := h33.keep1 c9 (by omega) (by omega)
  have h35 := h30.keep1 c9 (by omega) (by omega)
  exact ⟨_, rfl, ((((((((((Chg.refl [] w).step0 c1 (by omega)).step0 c2 (by omega)).step0 c3 (by omega)).step0 c4 (by omega)).step c5 (by omega) (by intro y hy; simp only [List.mem_cons, List.not_mem_nil, or_false, false_or] at hy ⊢; try omega)).step c6 (by omega) (by intro y hy; simp only [List.mem_cons, List.not_mem_nil, or_false, false_or] at hy ⊢; try omega)).step0 c7 (by omega)).step c8 (by omega) (by intro y hy; simp only [List.mem_cons, List.not_mem_nil, or_false, false_or] at hy ⊢; try omega)).step c9 (by omega) (by intro y hy; simp only [List.mem_cons, List.not_mem_nil, or_false, false_or] at hy ⊢; try omega)), .inl ⟨fr, to, at_, b, k, tv, bv, hwit, rfl, h34.wide (by omega) (by omega) (by omega), h35.wide (by omega) (by omega) (by omega)⟩⟩
  have z16 := c4.size
  have z17 := c5.size
  obtain ⟨rfl, hno, q0, q1, q2, q3, hrb, hrc⟩ := h13
  have hrl := hrb.lt
  have hrl2 := hrc.lt
  have z18 := c6.size
  refine ops_run1 (l' := [(2, .pointer (some ⟨b2, 0, none⟩)), (3, .pointer (some ⟨b3, 0, none⟩)), (4, .int .i64 110)]) (by kernel_rfl) ?_
  refine ops_nil (nx_seq (at_seq (at_seq (at_region ?_))))
  refine ops_run2 (l' := [(2, .pointer (some ⟨b2, 0, none⟩)), (3, .pointer (some ⟨b3, 0, none⟩)), (4, .int .i64 110), (8, .bool true)]) (by kernel_rfl) ?_
  refine ops_nil (nx_seq ?_)
  refine at_ift (by kernel_rfl) ?_
  refine at_seq (at_region ?_)
  refine ops_run2 (l' := [(2, .pointer (some ⟨b2, 0, none⟩)), (3, .pointer (some ⟨b3, 0, none⟩)), (4, .int .i64 110), (9, .agg #[S [], .slice none 0 0, .int .i64 0]), (10, .int .i64 110)]) (by kernel_rfl) ?_
  have h36 := hrb.keep1 c6 (by omega) (by omega)
  refine ops_storeS (i := 0) (vs := [S [], .slice none 0 0, .int .i64 0]) [S [], .slice none 0 0, .int .i64 0] (by kernel_rfl) (by kernel_rfl) (by kernel_rfl) (by kernel_rfl) (by kernel_rfl) (by kernel_rfl) h36 (by kernel_rfl) (by kernel_rfl) (fun w10 h37 c10 z19 => ?_)
  have z20 := c10.size
  have h38 := hrc.keep1 c6 (by omega) (by omega)
  have h39 := h38.keep1 c10 (by omega) (by omega)
  refine ops_store (i := 0) (v := .slice none 0 0) [.slice none 0 0] (by kernel_rfl) (by kernel_rfl) (by kernel_rfl) (by kernel_rfl) (by kernel_rfl) (by kernel_rfl) h39 (by kernel_rfl) (by kernel_rfl) (fun w11 h40 c11 z21 => ?_)
  have z22 := c11.size
  refine ops_run1 (l' := [(2, .pointer (some ⟨b2, 0, none⟩)), (3, .pointer (some ⟨b3, 0, none⟩)), (4, .int .i64 110)]) (by kernel_rfl) ?_
  refine ops_nil (nx_seq ?_)
  have h41 := h37.keep1 c11 (by omega) (by omega)
  refine at_retV (rs := [.cell 2 26, .cell 3 22, .tmp 4]) (vs := [.agg #[S [], .slice none 0 0, .int .i64 0], .slice none 0 0, .int .i64 110]) rfl (ResV.cellS (by kernel_rfl) h41 (by kernel_rfl) (by kernel_rfl) (ResV.cell (by kernel_rfl) h40 (by kernel_rfl) (ResV.tmp (by kernel_rfl) ResV.nil))) ?_
  exact ⟨_, rfl, (((((((((Chg.refl [] w).step0 c1 (by omega)).step0 c2 (by omega)).step0 c3 (by omega)).step0 c4 (by omega)).step c5 (by omega) (by intro y hy; simp only [List.mem_cons, List.not_mem_nil, or_false, false_or] at hy ⊢; try omega)).step c6 (by omega) (by intro y hy; simp only [List.mem_cons, List.not_mem_nil, or_false, false_or] at hy ⊢; try omega)).step c10 (by omega) (by intro y hy; simp only [List.mem_cons, List.not_mem_nil, or_false, false_or] at hy ⊢; try omega)).step c11 (by omega) (by intro y hy; simp only [List.mem_cons, List.not_mem_nil, or_false, false_or] at hy ⊢; try omega)), .inr ⟨hno, rfl⟩⟩
theorem after_ok (s what : Bytes) (hs : s.length ≤ 1000000) (hw : what.length ≤ 2000000) (w : World) : Rt Tryd.prog 56 #[S s, S what] w fun u w' => Chg [] w.heap.size w w' ∧ ∃ x r' ok, u = .tuple #[S x, S r', .bool ok] ∧ AfterS s what x r' ok ∧ (ok = true → ∃ t, s = what ++ t) := by
  refine enter (n := 38) (args := [S s, S what]) Tryd.func56 rfl rfl (Nat.le_of_ble_eq_true (by kernel_rfl)) ?_
  refine at_seq (at_region ?_)
  refine ops_run3 (l' := [(0, S s), (1, S what), (4, S []), (5, S []), (6, .bool false)]) (by kernel_rfl) ?_
  refine ops_nil (nx_seq (at_seq (at_seq (at_region ?_))))
  refine ops_run6 (l' := [(0, S s), (1, S what), (4, S []), (5, S []), (6, .bool false), (13, .bool (decide (((s.length : Int) : Int) < ((what.length : Int) : Int))))]) (by kernel_rfl) ?_
  by_cases q1 : ((s.length : Int) : Int) < ((what.length : Int) : Int)
  rw [show (decide (((s.length : Int) : Int) < ((what.length : Int) : Int))) = true from decide_eq_true q1]
  refine ops_run7 (l' := [(0, S s), (1, S what), (4, S []), (5, S []), (6, .bool false), (20, .bool true)]) (by kernel_rfl) ?_
  refine ops_nil (nx_seq ?_)
  refine at_ift (by kernel_rfl) ?_
  refine at_seq (at_region ?_)
  refine ops_run4 (l' := [(0, S s), (1, S what), (4, S []), (5, S s), (6, .bool false)]) (by kernel_rfl) ?_
  refine ops_nil (nx_seq ?_)
  refine at_ret (rs := [.tmp 4, .tmp 5, .tmp 6]) (vs := [S [], S s, .bool false]) rfl (by kernel_rfl) ?_
  exact ⟨_, rfl, (Chg.refl [] w), _, _, _, rfl, ⟨fun y t hy e => (by have := congrArg List.length e; simp only [List.length_append] at this; omega), by simp, by simp⟩, fun h => by cases h⟩
  rw [show (decide (((s.length : Int) : Int) < ((what.length : Int) : Int))) = false from decide_eq_false q1]
  refine ops_run3 (l' := [(0, S s), (1, S what), (4, S []), (5, S []), (6, .bool false), (13, .bool false), (14, S s), (16, .int .i64 ((what.length : Int)))]) (by kernel_rfl) ?_
  refine ops_uptoS (s := s) (i' := (what.length : Int)) (kd' := .i64) what.length (by kernel_rfl) (by kernel_rfl) (by kernel_rfl) (by kernel_rfl) (by kernel_rfl) (by first | omega | (simp only [List.length_append, List.length_cons, List.length_nil, List.length_take, List.length_drop, List.length_map]; omega)) (by first | omega | (simp only [List.length_append, List.length_cons, List.length_nil, List.length_take, List.length_drop, List.length_map]; omega)) ?_
  refine ops_run1 (l' := [(0, S s), (1, S what), (4, S []), (5, S []), (6, .bool false), (13, .bool false), (17, S (s.take what.length)), (18, S what)]) (by kernel_rfl) ?_
  refine ops_neS (a := s.take what.length) (b := what) (by kernel_rfl) (by kernel_rfl) (by kernel_rfl) (by kernel_rfl) ?_
  refine ops_run1 (l' := [(0, S s), (1, S what), (4, S []), (5, S []), (6, .bool false), (20, .bool (decide ((s.take what.length : Bytes) ≠ what)))]) (by kernel_rfl) ?_
  refine ops_nil (nx_seq ?_)
  refine at_ifp ((s.take what.length : Bytes) ≠ what) (by kernel_rfl) (fun q2 => ?_) (fun q2 => ?_)
  have hnp := q2
  refine at_seq (at_region ?_)
  refine ops_run4 (l' := [(0, S s), (1, S what), (4, S []), (5, S s), (6, .bool false)]) (by kernel_rfl) ?_
  refine ops_nil (nx_seq ?_)
  refine at_ret (rs := [.tmp 4, .tmp 5, .tmp 6]) (vs := [S [], S s, .bool false]) rfl (by kernel_rfl) ?_
  exact ⟨_, rfl, (Chg.refl [] w), _, _, _, rfl, ⟨fun y t hy e => (by rw [e, List.take_left] at hnp; exact absurd rfl hnp), by simp, by simp⟩, fun h => by cases h⟩
  have hpre : s.take what.length = what := Decidable.of_not_not q2
  refine at_skip (nx_seq (at_seq (at_region ?_)))
  refine ops_run3 (l' := [(0, S s), (4, S []), (5, S []), (6, .bool false), (22, S s), (24, .int .i64 ((what.length : Int)))]) (by kernel_rfl) ?_
  refine ops_fromS (s := s) (i := (what.length : Int)) (kd := .i64) what.length (by kernel_rfl) (by kernel_rfl) (by kernel_rfl) (by kernel_rfl) (by kernel_rfl) (by first | omega | (simp only [List.length_append, List.length_cons, List.length_nil, List.length_take, List.length_drop, List.length_map]; omega)) (by first | omega | (simp only [List.length_append, List.length_cons, List.length_nil, List.length_take, List.length_drop, List.length_map]; omega)) ?_
  refine ops_run1 (l' := [(0, S (s.drop what.length)), (4, S []), (5, S []), (6, .bool false)]) (by kernel_rfl) ?_
  refine ops_nil (nx_seq (at_seq (at_region ?_)))
  refine ops_run1 (l' := [(0, S (s.drop what.length)), (4, S []), (5, S []), (6, .bool false), (26, S (s.drop what.length))]) (by kernel_rfl) ?_
  refine ops_callr (by kernel_rfl) (by kernel_rfl) (by kernel_rfl) (in_ok (s.drop what.length) [13, 10] (by simp) (by first | omega | (simp only [List.length_append, List.length_cons, List.length_nil, List.length_take, List.length_drop, List.length_map]; omega)) (by first | omega | (simp only [List.length_append, List.length_cons, List.length_nil, List.length_take, List.length_drop, List.length_map]; omega)) w) ?_
  rintro _ w1 ⟨rfl, c1⟩
  have z1 := c1.size
  obtain ⟨ix, hix⟩ : ∃ ix, ix = Lib.index (s.drop what.length) crlf := ⟨_, rfl⟩
  rw [← hix]
  have hge : -1 ≤ ix := by rw [hix]; exact Lib.index_ge _ _
  have hrm : 0 ≤ ix → ix + 2 ≤ (s.drop what.length).length := fun h => by rw [hix] at h ⊢; exact Lib.index_room _ _ h
  have hst : s = what ++ s.drop what.length := by have h9 := List.take_append_drop what.length s; rw [hpre] at h9; exact h9.symm
  have hdl : (s.drop what.length).length = s.length - what.length := by simp
  refine ops_run1 (l' := [(0, S (s.drop what.length)), (4, S []), (5, S []), (6, .bool false), (7, .int .i64 ix)]) (by kernel_rfl) ?_
  refine ops_nil (nx_seq (at_seq (at_seq (at_region ?_))))
  refine ops_run2 (l' := [(0, S (s.drop what.length)), (4, S []), (5, S []), (6, .bool false), (7, .int .i64 ix), (29, .bool (decide ((ix : Int) < (0 : Int))))]) (by kernel_rfl) ?_
  refine ops_nil (nx_seq ?_)
  refine at_ifp ((ix : Int) < (0 : Int)) (by kernel_rfl) (fun q3 => ?_) (fun q3 => ?_)
  refine at_seq (at_region ?_)
  refine ops_run4 (l' := [(0, S (s.drop what.length)), (4, S []), (5, S (s.drop what.length)), (6, .bool false), (7, .int .i64 ix)]) (by kernel_rfl) ?_
  refine ops_nil (nx_seq ?_)
  refine at_ret (rs := [.tmp 4, .tmp 5, .tmp 6]) (vs := [S [], S (s.drop what.length), .bool false]) rfl (by kernel_rfl) ?_
  exact ⟨_, rfl, ((Chg.refl [] w).step0 c1 (by omega)), _, _, _, rfl, ⟨fun y t hy e => (by rw [e, List.drop_left, ← List.append_assoc, index_line hy] at hix; omega), by simp, by simp⟩, fun h => by cases h⟩
  refine at_skip (nx_seq (at_seq ?_))
  refine at_draw (m := 10) (listed := (bm 10 0)) (fun W => True) (by kernel_rfl) (by kernel_rfl) (by kernel_rfl) (fun w2 c2 z2 _ _ => ?_)
  have z3 := c2.size
  refine ⟨trivial, ?_⟩
  refine any_takes [0, 1] (fuel' := 8) (listed' := (bm 10 3)) (l' := [(0, S (s.drop what.length)), (4, S []), (5, S []), (6, .bool false), (7, .int .i64 ix), (31, S (s.drop what.length)), (32, .int .i64 ix)]) panK_FB (by kernel_rfl) (by kernel_rfl) (by kernel_rfl) ?_
  refine any_uptoS (q_ := 2) (listed' := (bm 10 7)) (s := s.drop what.length) (i' := ix) (kd' := .i64) ix.toNat panK_FB (by kernel_rfl) rfl (by kernel_rfl) (by kernel_rfl) (by kernel_rfl) (by kernel_rfl) (by kernel_rfl) (by kernel_rfl) (by kernel_rfl) (by first | omega | (simp only [List.length_append, List.length_cons, List.length_nil, List.length_take, List.length_drop, List.length_map]; omega)) (by first | omega | (simp only [List.length_append, List.length_cons, List.length_nil, List.length_take, List.length_drop, List.length_map]; omega)) ?_
  refine any_takes [3, 4] (fuel' := 5) (listed' := (bm 10 31)) (l' := [(4, S []), (5, S []), (6, .bool false), (33, S ((s.drop what.length).take ix.toNat)), (34, S (s.drop what.length)), (35, .int .i64 ix)]) panK_FB (by kernel_rfl) (by kernel_rfl) (by kernel_rfl) ?_
  refine any_add (q_ := 5) (listed' := (bm 10 63)) (a := ix) (b := 2) (kd := .i64) panK_FB (by kernel_rfl) rfl (by kernel_rfl) (by kernel_rfl) (by kernel_rfl) (by kernel_rfl) (by kernel_rfl) (by kernel_rfl) (show (-9223372036854775808 : Int) ≤ ix + 2 by omega) (show ix + 2 ≤ (9223372036854775807 : Int) by omega) ?_
  refine any_fromS (q_ := 6) (listed' := (bm 10 127)) (s := s.drop what.length) (i := ix + 2) (kd := .i64) (ix.toNat + 2) panK_FB (by kernel_rfl) rfl (by kernel_rfl) (by kernel_rfl) (by kernel_rfl) (by kernel_rfl) (by kernel_rfl) (by kernel_rfl) (by kernel_rfl) (by first | omega | (simp only [List.length_append, List.length_cons, List.length_nil, List.length_take, List.length_drop, List.length_map]; omega)) (by first | omega | (simp only [List.length_append, List.length_cons, List.length_nil, List.length_take, List.length_drop, List.length_map]; omega)) ?_
  refine any_takes [7, 8, 9] (fuel' := 0) (listed' := (bm 10 1023)) (l' := [(4, S ((s.drop what.length).take ix.toNat)), (5, S ((s.drop what.length).drop (ix.toNat + 2))), (6, .bool true)]) panK_FB (by kernel_rfl) (by kernel_rfl) (by kernel_rfl) ?_
  refine any_done (by kernel_rfl) ?_
  refine nx_seq ?_
  refine at_ret (rs := [.tmp 4, .tmp 5, .tmp 6]) (vs := [S ((s.drop what.length).take ix.toNat), S ((s.drop what.length).drop (ix.toNat + 2)), .bool true]) rfl (by kernel_rfl) ?_
  exact ⟨_, rfl, (((Chg.refl [] w).step0 c1 (by omega)).step0 c2 (by omega)), _, _, _, rfl, ⟨fun y t hy e => (by have h9 := hix; rw [e, List.drop_left, ← List.append_assoc, index_line hy] at h9; subst h9; refine ⟨rfl, ?_, ?_⟩ <;> · rw [e, List.drop_left]; simp), by simp only [List.length_take, List.length_drop]; omega, by simp only [List.length_drop]; omega⟩, fun _ => ⟨_, hst⟩⟩
theorem rRead_ok {w : World} {lo hi : Nat} {rv : Value} {r : Bytes} (hr : Bs w lo hi rv r) (hs : r.length ≤ 1000000) (hg : Gl w) : Rt Tryd.prog 15 #[rv] w fun u w' => Chg [] w.heap.size w w' ∧ ((∃ (fr : Bytes) (to : List Bytes) (at_ : Int) (b : Bytes) (k : Nat) (tv bv : Value), Wit r fr to at_ b k ∧ u = .tuple #[.agg #[S fr, tv, .int .i64 at_], bv, .int .i64 0] ∧ Ss w' w.heap.size w'.heap.size tv to ∧ Bs w' w.heap.size w'.heap.size bv b) ∨ (NoRep r ∧ u = .tuple #[.agg #[S [], .slice none 0 0, .int .i64 0], .slice none 0 0, .int .i64 110])) := by
  have hgs := hg.size
  have hhi := hr.hi_le
  refine enter (n := 120) (args := [rv]) Tryd.func15 rfl rfl (Nat.le_of_ble_eq_true (by kernel_rfl)) ?_
  refine at_seq (at_region ?_)
  refine ops_alloc (z := .agg #[S [], .slice none 0 0, .int .i64 0]) (cs := [S [], .slice none 0 0, .int .i64 0]) (by kernel_rfl) (by kernel_rfl) (by kernel_rfl) (by kernel_rfl) (fun b1 w1 e1 h1 c1 z1 => ?_)
  have z2 := c1.size
  refine ops_run2 (l' := [(0, rv), (2, .pointer (some ⟨b1, 0, none⟩)), (3, .slice none 0 0), (4, .int .i64 0)]) (by kernel_rfl) ?_
  refine ops_nil (nx_seq (at_seq (at_region ?_)))
  refine ops_alloc (z := .agg #[S [], .slice none 0 0, .int .i64 0]) (cs := [S [], .slice none 0 0, .int .i64 0]) (by kernel_rfl) (by kernel_rfl) (by kernel_rfl) (by kernel_rfl) (fun b2 w2 e2 h2 c2 z3 => ?_)
  have z4 := c2.size
  refine ops_nil (nx_seq (at_seq (at_region ?_)))
  refine ops_run1 (l' := [(0, rv), (2, .pointer (some ⟨b1, 0, none⟩)), (3, .slice none 0 0), (4, .int .i64 0), (5, .pointer (some ⟨b2, 0, none⟩)), (17, rv)]) (by kernel_rfl) ?_
  have h3 := hr.keep0 c1 (by omega)
  have h4 := h3.keep0 c2 (by omega)
  refine ops_toS (b := r) (by kernel_rfl) (by kernel_rfl) (by kernel_rfl) (by kernel_rfl) (by kernel_rfl) h4 ?_
  refine ops_callr (by kernel_rfl) (by kernel_rfl) (by kernel_rfl) (after_ok r (cMV ++ crlf ++ cCT) (by first | omega | (simp only [List.length_append, List.length_cons, List.length_nil, List.length_take, List.length_drop, List.length_map]; omega)) (by first | omega | (simp only [List.length_append, List.length_cons, List.length_nil, List.length_take, List.length_drop, List.length_map]; omega)) w2) ?_
  rintro _ w3 ⟨c3, x1, r1, ok1, rfl, h5, h6⟩
  have z5 := c3.size
  have al1 := h5.lx
  have al2 := h5.lr
  refine ops_run7 (l' := [(0, rv), (2, .pointer (some ⟨b1, 0, none⟩)), (3, .slice none 0 0), (4, .int .i64 0), (5, .pointer (some ⟨b2, 0, none⟩)), (6, S x1), (7, S r1), (8, .bool ok1)]) (by kernel_rfl) ?_
  refine ops_nil (nx_seq (at_seq (at_seq (at_region ?_))))
  refine ops_run2 (l' := [(0, rv), (2, .pointer (some ⟨b1, 0, none⟩)), (3, .slice none 0 0), (4, .int .i64 0), (5, .pointer (some ⟨b2, 0, none⟩)), (6, S x1), (7, S r1), (8, .bool ok1), (24, .bool (!ok1))]) (by kernel_rfl) ?_
  refine ops_nil (nx_seq ?_)
  refine at_if (!ok1) (by kernel_rfl) (fun q1 => ?_) (fun q1 => ?_)
  simp only [Bool.not_eq_true', Bool.not_eq_false', Bool.not_eq_true, Bool.not_eq_false] at q1
  refine at_seq (at_region ?_)
  refine ops_run1 (l' := [(0, rv), (2, .pointer (some ⟨b1, 0, none⟩)), (3, .slice none 0 0), (4, .int .i64 0), (5, .pointer (some ⟨b2, 0, none⟩)), (6, S x1), (7, S r1), (8, .bool ok1), (25, .agg #[S [], .slice none 0 0, .int .i64 0])]) (by kernel_rfl) ?_
  have h7 := h1.keep0 c2 (by omega)
  have h8 := h7.keep0 c3 (by omega)
  refine ops_storeS (i := 0) (vs := [S [], .slice none 0 0, .int .i64 0]) [S [], .slice none 0 0, .int .i64 0] (by kernel_rfl) (by kernel_rfl) (by kernel_rfl) (by kernel_rfl) (by kernel_rfl) (by kernel_rfl) h8 (by kernel_rfl) (by kernel_rfl) (fun w4 h9 c4 z6 => ?_)
  have z7 := c4.size
  refine ops_run2 (l' := [(0, rv), (2, .pointer (some ⟨b1, 0, none⟩)), (3, .slice none 0 0), (4, .int .i64 110), (5, .pointer (some ⟨b2, 0, none⟩)), (6, S x1), (7, S r1), (8, .bool ok1)]) (by kernel_rfl) ?_
  refine ops_nil (nx_seq ?_)
  refine at_retV (rs := [.cell 2 26, .tmp 3, .tmp 4]) (vs := [.agg #[S [], .slice none 0 0, .int .i64 0], .slice none 0 0, .int .i64 110]) rfl (ResV.cellS (by kernel_rfl) h9 (by kernel_rfl) (by kernel_rfl) (ResV.tmp (by kernel_rfl) (ResV.tmp (by kernel_rfl) ResV.nil))) ?_
  exact ⟨_, rfl, (((((Chg.refl [] w).step0 c1 (by omega)).step0 c2 (by omega)).step0 c3 (by omega)).step c4 (by omega) (by intro y hy; simp only [List.mem_cons, List.not_mem_nil, or_false, false_or] at hy ⊢; try omega)), .inr ⟨fun fr to at_ b k hw => (by obtain ⟨o1, _, _⟩ := h5.all _ _ (jn_nocr k) (rr_0 hw); rw [q1] at o1; cases o1), rfl⟩⟩
  simp only [Bool.not_eq_true', Bool.not_eq_false', Bool.not_eq_true, Bool.not_eq_false] at q1
  refine at_skip (nx_seq (at_seq (at_region ?_)))
  refine ops_run2 (l' := [(0, rv), (2, .pointer (some ⟨b1, 0, none⟩)), (3, .slice none 0 0), (4, .int .i64 0), (5, .pointer (some ⟨b2, 0, none⟩)), (6, S x1), (7, S r1), (8, .bool ok1), (27, S r1), (28, S x1)]) (by kernel_rfl) ?_
  refine ops_cat (a := [13, 10, 45, 45]) (b := x1) (by kernel_rfl) (by kernel_rfl) (by kernel_rfl) (by kernel_rfl) (by first | omega | (simp only [List.length_append, List.length_cons, List.length_nil, List.length_take, List.length_drop, List.length_map]; omega)) ?_
  refine ops_callr (by kernel_rfl) (by kernel_rfl) (by kernel_rfl) (after_ok r1 (crlf ++ cDD ++ x1) (by first | omega | (simp only [List.length_append, List.length_cons, List.length_nil, List.length_take, List.length_drop, List.length_map]; omega)) (by first | omega | (simp only [List.length_append, List.length_cons, List.length_nil, List.length_take, List.length_drop, List.length_map]; omega)) w3) ?_
  rintro _ w5 ⟨c5, x2, r2, ok2, rfl, h10, h11⟩
  have z8 := c5.size
  have al3 := h10.lx
  have al4 := h10.lr
  refine ops_run6 (l' := [(0, rv), (2, .pointer (some ⟨b1, 0, none⟩)), (3, .slice none 0 0), (4, .int .i64 0), (5, .pointer (some ⟨b2, 0, none⟩)), (6, S x1), (7, S r2), (8, .bool ok2)]) (by kernel_rfl) ?_
  refine ops_nil (nx_seq (at_seq (at_seq (at_region ?_))))
  refine ops_run2 (l' := [(0, rv), (2, .pointer (some ⟨b1, 0, none⟩)), (3, .slice none 0 0), (4, .int .i64 0), (5, .pointer (some ⟨b2, 0, none⟩)), (6, S x1), (7, S r2), (8, .bool ok2), (35, .bool (!ok2))]) (by kernel_rfl) ?_
  refine ops_nil (nx_seq ?_)
  refine at_if (!ok2) (by kernel_rfl) (fun q2 => ?_) (fun q2 => ?_)
  simp only [Bool.not_eq_true', Bool.not_eq_false', Bool.not_eq_true, Bool.not_eq_false] at q2
  refine at_seq (at_region ?_)
  refine ops_run1 (l' := [(0, rv), (2, .pointer (some ⟨b1, 0, none⟩)), (3, .slice none 0 0), (4, .int .i64 0), (5, .pointer (some ⟨b2, 0, none⟩)), (6, S x1), (7, S r2), (8, .bool ok2), (36, .agg #[S [], .slice none 0 0, .int .i64 0])]) (by kernel_rfl) ?_
  have h12 := h1.keep0 c2 (by omega)
  have h13 := h12.keep0 c3 (by omega)
  have h14 := h13.keep0 c5 (by omega)
  refine ops_storeS (i := 0) (vs := [S [], .slice none 0 0, .int .i64 0]) [S [], .slice none 0 0, .int .i64 0] (by kernel_rfl) (by kernel_rfl) (by kernel_rfl) (by kernel_rfl) (by kernel_rfl) (by kernel_rfl) h14 (by kernel_rfl) (by kernel_rfl) (fun w6 h15 c6 z9 => ?_)
  have z10 := c6.size
  refine ops_run2 (l' := [(0, rv), (2, .pointer (some ⟨b1, 0, none⟩)), (3, .slice none 0 0), (4, .int .i64 110), (5, .pointer (some ⟨b2, 0, none⟩)), (6, S x1), (7, S r2), (8, .bool ok2)]) (by kernel_rfl) ?_
  refine ops_nil (nx_seq ?_)
  refine at_retV (rs := [.cell 2 26, .tmp 3, .tmp 4]) (vs := [.agg #[S [], .slice none 0 0, .int .i64 0], .slice none 0 0, .int .i64 110]) rfl (ResV.cellS (by kernel_rfl) h15 (by kernel_rfl) (by kernel_rfl) (ResV.tmp (by kernel_rfl) (ResV.tmp (by kernel_rfl) ResV.nil))) ?_
  exact ⟨_, rfl, ((((((Chg.refl [] w).step0 c1 (by omega)).step0 c2 (by omega)).step0 c3 (by omega)).step0 c5 (by omega)).step c6 (by omega) (by intro y hy; simp only [List.mem_cons, List.not_mem_nil, or_false, false_or] at hy ⊢; try omega)), .inr ⟨fun fr to at_ b k hw => (by obtain ⟨_, rfl, o3⟩ := h5.all _ _ (jn_nocr k) (rr_0 hw); obtain ⟨o1, _, _⟩ := h10.all [] _ (const_nocr (by decide)) (by rw [o3]; exact rr_2 ..); rw [q2] at o1; cases o1), rfl⟩⟩
  simp only [Bool.not_eq_true', Bool.not_eq_false', Bool.not_eq_true, Bool.not_eq_false] at q2
  refine at_skip (nx_seq (at_seq (at_region ?_)))
  refine ops_run1 (l' := [(0, rv), (2, .pointer (some ⟨b1, 0, none⟩)), (3, .slice none 0 0), (4, .int .i64 0), (5, .pointer (some ⟨b2, 0, none⟩)), (6, S x1), (7, S r2), (8, .bool ok2), (38, S r2)]) (by kernel_rfl) ?_
  refine ops_callr (by kernel_rfl) (by kernel_rfl) (by kernel_rfl) (after_ok r2 (cTP ++ crlf ++ crlf ++ cSE) (by first | omega | (simp only [List.length_append, List.length_cons, List.length_nil, List.length_take, List.length_drop, List.length_map]; omega)) (by first | omega | (simp only [List.length_append, List.length_cons, List.length_nil, List.length_take, List.length_drop, List.length_map]; omega)) w5) ?_
  rintro _ w7 ⟨c7, x3, r3, ok3, rfl, h16, h17⟩
  have z11 := c7.size
  have al5 := h16.lx
  have al6 := h16.lr
  refine ops_run5 (l' := [(0, rv), (2, .pointer (some ⟨b1, 0, none⟩)), (3, .slice none 0 0), (4, .int .i64 0), (5, .pointer (some ⟨b2, 0, none⟩)), (6, S x1), (7, S r2), (8, .bool ok2), (40, S x3), (41, S r3), (42, .bool ok3), (43, .pointer (some ⟨b2, 0, none⟩))]) (by kernel_rfl) ?_
  have h18 := h2.keep0 c3 (by omega)
  have h19 := h18.keep0 c5 (by omega)
  have h20 := h19.keep0 c7 (by omega)
  refine ops_store (i := 0) (v := S x3) [S x3, .slice none 0 0, .int .i64 0] (by kernel_rfl) (by kernel_rfl) (by kernel_rfl) (by kernel_rfl) (by kernel_rfl) (by kernel_rfl) h20 (by kernel_rfl) (by kernel_rfl) (fun w8 h21 c8 z12 => ?_)
  have z13 := c8.size
  refine ops_run2 (l' := [(0, rv), (2, .pointer (some ⟨b1, 0, none⟩)), (3, .slice none 0 0), (4, .int .i64 0), (5, .pointer (some ⟨b2, 0, none⟩)), (6, S x1), (7, S r3), (8, .bool ok3)]) (by kernel_rfl) ?_
  refine ops_nil (nx_seq (at_seq (at_seq (at_region ?_))))
  refine ops_run2 (l' := [(0, rv), (2, .pointer (some ⟨b1, 0, none⟩)), (3, .slice none 0 0), (4, .int .i64 0), (5, .pointer (some ⟨b2, 0, none⟩)), (6, S x1), (7, S r3), (8, .bool ok3), (45, .bool (!ok3))]) (by kernel_rfl) ?_
  refine ops_nil (nx_seq ?_)
  refine at_if (!ok3) (by kernel_rfl) (fun q3 => ?_) (fun q3 => ?_)
  simp only [Bool.not_eq_true', Bool.not_eq_false', Bool.not_eq_true, Bool.not_eq_false] at q3
  refine at_seq (at_region ?_)
  refine ops_run1 (l' := [(0, rv), (2, .pointer (some ⟨b1, 0, none⟩)), (3, .slice none 0 0), (4, .int .i64 0), (5, .pointer (some ⟨b2, 0, none⟩)), (6, S x1), (7, S r3), (8, .bool ok3), (46, .agg #[S [], .slice none 0 0, .int .i64 0])]) (by kernel_rfl) ?_
  have h22 := h1.keep0 c2 (by omega)
  have h23 := h22.keep0 c3 (by omega)
  have h24 := h23.keep0 c5 (by omega)
  have h25 := h24.keep0 c7 (by omega)
  have h26 := h25.keep1 c8 (by omega) (by omega)
  refine ops_storeS (i := 0) (vs := [S [], .slice none 0 0, .int .i64 0]) [S [], .slice none 0 0, .int .i64 0] (by kernel_rfl) (by kernel_rfl) (by kernel_rfl) (by kernel_rfl) (by kernel_rfl) (by kernel_rfl) h26 (by kernel_rfl) (by kernel_rfl) (fun w9 h27 c9 z14 => ?_)
  have z15 := c9.size
  refine ops_run2 (l' := [(0, rv), (2, .pointer (some ⟨b1, 0, none⟩)), (3, .slice none 0 0), (4, .int .i64 110), (5, .pointer (some ⟨b2, 0, none⟩)), (6, S x1), (7, S r3), (8, .bool ok3)]) (by kernel_rfl) ?_
  refine ops_nil (nx_seq ?_)
  refine at_retV (rs := [.cell 2 26, .tmp 3, .tmp 4]) (vs := [.agg #[S [], .slice none 0 0, .int .i64 0], .slice none 0 0, .int .i64 110]) rfl (ResV.cellS (by kernel_rfl) h27 (by kernel_rfl) (by kernel_rfl) (ResV.tmp (by kernel_rfl) (ResV.tmp (by kernel_rfl) ResV.nil))) ?_
  exact ⟨_, rfl, ((((((((Chg.refl [] w).step0 c1 (by omega)).step0 c2 (by omega)).step0 c3 (by omega)).step0 c5 (by omega)).step0 c7 (by omega)).step c8 (by omega) (by intro y hy; simp only [List.mem_cons, List.not_mem_nil, or_false, false_or] at hy ⊢; try omega)).step c9 (by omega) (by intro y hy; simp only [List.mem_cons, List.not_mem_nil, or_false, false_or] at hy ⊢; try omega)), .inr ⟨fun fr to at_ b k hw => (by obtain ⟨_, rfl, o3⟩ := h5.all _ _ (jn_nocr k) (rr_0 hw); obtain ⟨_, _, o4⟩ := h10.all [] _ (const_nocr (by decide)) (by rw [o3]; exact rr_2 ..); obtain ⟨o1, _, _⟩ := h16.all _ _ (wit_fr_nocr hw) (by rw [o4]; exact rr_4 ..); rw [q3] at o1; cases o1), rfl⟩⟩
  simp only [Bool.not_eq_true', Bool.not_eq_false', Bool.not_eq_true, Bool.not_eq_false] at q3
  refine at_skip (nx_seq (at_seq (at_region ?_)))
  refine ops_run1 (l' := [(0, rv), (2, .pointer (some ⟨b1, 0, none⟩)), (3, .slice none 0 0), (4, .int .i64 0), (5, .pointer (some ⟨b2, 0, none⟩)), (6, S x1), (7, S r3), (8, .bool ok3), (48, S r3)]) (by kernel_rfl) ?_
  refine ops_callr (by kernel_rfl) (by kernel_rfl) (by kernel_rfl) (after_ok r3 cRE (by first | omega | (simp only [List.length_append, List.length_cons, List.length_nil, List.length_take, List.length_drop, List.length_map]; omega)) (by first | omega | (simp only [List.length_append, List.length_cons, List.length_nil, List.length_take, List.length_drop, List.length_map]; omega)) w8) ?_
  rintro _ w10 ⟨c10, x4, r4, ok4, rfl, h28, h29⟩
  have z16 := c10.size
  have al7 := h28.lx
  have al8 := h28.lr
  refine ops_run7 (l' := [(0, rv), (2, .pointer (some ⟨b1, 0, none⟩)), (3, .slice none 0 0), (4, .int .i64 0), (5, .pointer (some ⟨b2, 0, none⟩)), (6, S x1), (7, S r4), (8, .bool ok4), (9, S x4)]) (by kernel_rfl) ?_
  refine ops_nil (nx_seq (at_seq (at_region ?_)))
  refine ops_run1 (l' := [(0, rv), (2, .pointer (some ⟨b1, 0, none⟩)), (3, .slice none 0 0), (4, .int .i64 0), (5, .pointer (some ⟨b2, 0, none⟩)), (6, S x1), (7, S r4), (8, .bool ok4), (54, S x4)]) (by kernel_rfl) ?_
  refine ops_callr (by kernel_rfl) (by kernel_rfl) (by kernel_rfl) (number_ok x4 (by first | omega | (simp only [List.length_append, List.length_cons, List.length_nil, List.length_take, List.length_drop, List.length_map]; omega)) w10) ?_
  rintro _ w11 ⟨c11, n1, ok5, rfl, h30, h31, h32⟩
  have z17 := c11.size
  have h33 := h30
  refine ops_run4 (l' := [(0, rv), (2, .pointer (some ⟨b1, 0, none⟩)), (3, .slice none 0 0), (4, .int .i64 0), (5, .pointer (some ⟨b2, 0, none⟩)), (6, S x1), (7, S r4), (8, .bool ok4), (56, .int .i64 n1), (58, .pointer (some ⟨b2, 2, none⟩))]) (by kernel_rfl) ?_
  have h34 := h21.keep0 c10 (by omega)
  have h35 := h34.keep0 c11 (by omega)
  refine ops_store (i := 2) (v := .int .i64 n1) [S x3, .slice none 0 0, .int .i64 n1] (by kernel_rfl) (by kernel_rfl) (by kernel_rfl) (by kernel_rfl) (by kernel_rfl) (by kernel_rfl) h35 (by kernel_rfl) (by kernel_rfl) (fun w12 h36 c12 z18 => ?_)
  have z19 := c12.size
  refine ops_nil (nx_seq ?_)
  refine at_cut (X := Value × (List Bytes)) (fun x_ => [(0, rv), (2, .pointer (some ⟨b1, 0, none⟩)), (3, .slice none 0 0), (4, .int .i64 0), (5, .pointer (some ⟨b2, 0, none⟩)), (6, S x1)]) (fun x_ W1 => Chg [b2] (w12.heap.size) w12 W1 ∧ Blk W1 b2 [S x3, x_.1, .int .i64 n1] 26 ∧ OwnS W1 w12.heap.size x_.1 x_.2 ∧ (Ended r x1 x3 n1 x_.2) ∧ (x_.2.length ≤ 101) ∧ (∀ s : Bytes, s ∈ x_.2 → s.length ≤ 1000000)) ?_ ?_
  refine at_block ?_
  refine at_loop (X := Value × (List Bytes) × Bytes × Bool) (fun x_ => [(0, rv), (2, .pointer (some ⟨b1, 0, none⟩)), (3, .slice none 0 0), (4, .int .i64 0), (5, .pointer (some ⟨b2, 0, none⟩)), (6, S x1), (7, S x_.2.2.1), (8, .bool x_.2.2.2)]) (fun x_ W2 => Chg [b2] (w12.heap.size) w12 W2 ∧ Blk W2 b2 [S x3, x_.1, .int .i64 n1] 26 ∧ OwnS W2 w12.heap.size x_.1 x_.2.1 ∧ (x_.2.1.length ≤ 100) ∧ ((if x_.2.2.2 = true then AtTo r x1 x3 n1 x_.2.1 x_.2.2.1 else Ended r x1 x3 n1 x_.2.1)) ∧ (∀ s : Bytes, s ∈ x_.2.1 → s.length ≤ 1000000) ∧ (x_.2.2.1.length ≤ 1000000)) (fun x_ => 2 * (102 - x_.2.1.length) + (if x_.2.2.2 = true then 1 else 0)) (.slice none 0 0, [], r4, ok4) (proj_sub [0, 2, 3, 4, 5, 6, 7, 8] (by kernel_rfl)) ⟨(Chg.refl [b2] w12), h36, Own.nil _ _ _ (by omega), (show [].length ≤ 100 by first | omega | (simp only [List.length_append, List.length_cons, List.length_nil, List.length_take, List.length_drop, List.length_map]; omega)), (show (if ok4 = true then AtTo r x1 x3 n1 [] r4 else Ended r x1 x3 n1 []) by exact atTo_init h5 h10 h16 h28 h31 h32), (show ∀ s : Bytes, s ∈ [] → s.length ≤ 1000000 by intro s hs; cases hs), (show r4.length ≤ 1000000 by first | omega | (simp only [List.length_append, List.length_cons, List.length_nil, List.length_take, List.length_drop, List.length_map]; omega))⟩ ?_
  rintro ⟨tv, ts, s0, ok⟩ w13 ⟨h37, h38, h39, h40, h41, h42, h43⟩
  replace h37 : Chg [b2] (w12.heap.size) w12 w13 := h37
  replace h38 : Blk w13 b2 [S x3, tv, .int .i64 n1] 26 := h38
  replace h39 : OwnS w13 w12.heap.size tv ts := h39
  replace h40 : (ts.length ≤ 100) := h40
  replace h41 : ((if ok = true then AtTo r x1 x3 n1 ts s0 else Ended r x1 x3 n1 ts)) := h41
  replace h42 : (∀ s : Bytes, s ∈ ts → s.length ≤ 1000000) := h42
  replace h43 : (s0.length ≤ 1000000) := h43
  have z20 := h37.size
  have z21 := h38.lt
  have hat0 := h41
  have htsl := h42
  have hat := hat0
  refine at_seq (at_seq (at_region ?_))
  refine ops_run1 (l' := [(0, rv), (2, .pointer (some ⟨b1, 0, none⟩)), (3, .slice none 0 0), (4, .int .i64 0), (5, .pointer (some ⟨b2, 0, none⟩)), (6, S x1), (7, S s0), (8, .bool ok), (59, .bool ok)]) (by kernel_rfl) ?_
  refine ops_nil (nx_seq ?_)
  refine at_if (ok) (by kernel_rfl) (fun q4 => ?_) (fun q4 => ?_)
  rw [q4] at hat
  have hok0 := q4
  simp only [if_true] at hat
  refine at_skip (nx_seq (at_block (at_seq (at_region ?_))))
  refine ops_run1 (l' := [(0, rv), (2, .pointer (some ⟨b1, 0, none⟩)), (3, .slice none 0 0), (4, .int .i64 0), (5, .pointer (some ⟨b2, 0, none⟩)), (6, S x1), (7, S s0), (8, .bool ok), (10, S [])]) (by kernel_rfl) ?_
  refine ops_nil (nx_seq (at_seq (at_region ?_)))
  refine ops_run1 (l' := [(0, rv), (2, .pointer (some ⟨b1, 0, none⟩)), (3, .slice none 0 0), (4, .int .i64 0), (5, .pointer (some ⟨b2, 0, none⟩)), (6, S x1), (7, S s0), (8, .bool ok), (10, S []), (61, S s0)]) (by kernel_rfl) ?_
  refine ops_callr (by kernel_rfl) (by kernel_rfl) (by kernel_rfl) (after_ok s0 cRP (by first | omega | (simp only [List.length_append, List.length_cons, List.length_nil, List.length_take, List.length_drop, List.length_map]; omega)) (by first | omega | (simp only [List.length_append, List.length_cons, List.length_nil, List.length_take, List.length_drop, List.length_map]; omega)) w13) ?_
  rintro _ w14 ⟨c13, x5, r5, ok6, rfl, h44, h45⟩
  have z22 := c13.size
  have al9 := h44.lx
  have al10 := h44.lr
  refine ops_run7 (l' := [(0, rv), (2, .pointer (some ⟨b1, 0, none⟩)), (3, .slice none 0 0), (4, .int .i64 0), (5, .pointer (some ⟨b2, 0, none⟩)), (6, S x1), (7, S r5), (8, .bool ok6), (10, S x5)]) (by kernel_rfl) ?_
  refine ops_nil (nx_seq (at_seq (at_seq (at_region ?_))))
  refine ops_run1 (l' := [(0, rv), (2, .pointer (some ⟨b1, 0, none⟩)), (3, .slice none 0 0), (4, .int .i64 0), (5, .pointer (some ⟨b2, 0, none⟩)), (6, S x1), (7, S r5), (8, .bool ok6), (10, S x5), (66, .bool ok6)]) (by kernel_rfl) ?_
  refine ops_nil (nx_seq ?_)
  refine at_if (ok6) (by kernel_rfl) (fun q5 => ?_) (fun q5 => ?_)
  refine at_region ?_
  refine ops_run1 (l' := [(0, rv), (2, .pointer (some ⟨b1, 0, none⟩)), (3, .slice none 0 0), (4, .int .i64 0), (5, .pointer (some ⟨b2, 0, none⟩)), (6, S x1), (7, S r5), (8, .bool ok6), (10, S x5), (67, .pointer (some ⟨b2, 1, none⟩))]) (by kernel_rfl) ?_
  have h46 := h38.keep0 c13 (by omega)
  refine ops_loadB (i := 1) (v := tv) (by kernel_rfl) (by kernel_rfl) (by kernel_rfl) (by kernel_rfl) h46 (by kernel_rfl) ?_
  refine ops_run1 (l' := [(0, rv), (2, .pointer (some ⟨b1, 0, none⟩)), (3, .slice none 0 0), (4, .int .i64 0), (5, .pointer (some ⟨b2, 0, none⟩)), (6, S x1), (7, S r5), (8, .bool ok6), (68, tv), (69, S x5)]) (by kernel_rfl) ?_
  refine ops_lit (e := 9) (sz := 1) [S x5] (by kernel_rfl) (by kernel_rfl) (by kernel_rfl) rfl (by decide) (fun v1 w15 h47 c14 z23 => ?_)
  have z24 := c14.size
  replace h47 : OwnS w15 (w14.heap.size) v1 [x5] := h47.1
  have h48 := h39.keep c13 (by omega) (fun _ _ _ => by simp)
  have h49 := h48.keep c14 (by omega) (fun _ _ _ => by simp)
  refine ops_appendS (e := 9) (by_ := 16) (l1 := ts) (l2 := [x5]) (by kernel_rfl) (by kernel_rfl) (by kernel_rfl) (by kernel_rfl) (by kernel_rfl) (by kernel_rfl) (by kernel_rfl) h49 h47.sl (by first | omega | (simp only [List.length_append, List.length_cons, List.length_nil, List.length_take, List.length_drop, List.length_map]; omega)) (by first | omega | (simp only [List.length_append, List.length_cons, List.length_nil, List.length_take, List.length_drop, List.length_map]; omega)) (fun v2 w16 h50 c15 c16 => ?_)
  have z25 := c15.size
  refine ops_run1 (l' := [(0, rv), (2, .pointer (some ⟨b1, 0, none⟩)), (3, .slice none 0 0), (4, .int .i64 0), (5, .pointer (some ⟨b2, 0, none⟩)), (6, S x1), (7, S r5), (8, .bool ok6), (71, v2), (72, .pointer (some ⟨b2, 1, none⟩))]) (by kernel_rfl) ?_
  have h51 := h46.keep0 c14 (by omega)
  have h52 := h51.keep0 c15 (by omega)
  refine ops_store (i := 1) (v := v2) [S x3, v2, .int .i64 n1] (by kernel_rfl) (by kernel_rfl) (by kernel_rfl) (by kernel_rfl) h50.sl.one (by kernel_rfl) h52 (by kernel_rfl) (by kernel_rfl) (fun w17 h53 c17 z26 => ?_)
  have z27 := c17.size
  refine ops_nil (nx_seq (at_seq (at_region ?_)))
  refine ops_run1 (l' := [(0, rv), (2, .pointer (some ⟨b1, 0, none⟩)), (3, .slice none 0 0), (4, .int .i64 0), (5, .pointer (some ⟨b2, 0, none⟩)), (6, S x1), (7, S r5), (8, .bool ok6), (73, .pointer (some ⟨b2, 1, none⟩))]) (by kernel_rfl) ?_
  refine ops_loadB (i := 1) (v := v2) (by kernel_rfl) (by kernel_rfl) (by kernel_rfl) (by kernel_rfl) h53 (by kernel_rfl) ?_
  have h54 := h50.keep c17 (by omega) (fun b _ _ => by simp only [List.mem_cons, List.not_mem_nil, or_false, not_or]; omega)
  refine ops_len (e := 9) (by kernel_rfl) (by kernel_rfl) (by kernel_rfl) (by kernel_rfl) h54.sl ?_
  refine ops_run1 (l' := [(0, rv), (2, .pointer (some ⟨b1, 0, none⟩)), (3, .slice none 0 0), (4, .int .i64 0), (5, .pointer (some ⟨b2, 0, none⟩)), (6, S x1), (7, S r5), (8, .bool ok6), (76, .bool (decide ((((((ts ++ [x5]).length) : Nat) : Int) : Int) > (100 : Int))))]) (by kernel_rfl) ?_
  refine ops_nil (nx_seq ?_)
  refine at_ifp ((((((ts ++ [x5]).length) : Nat) : Int) : Int) > (100 : Int)) (by kernel_rfl) (fun q6 => ?_) (fun q6 => ?_)
  refine at_exit (ex_past rfl (ex_inv (ex_here ?_)))
  exact nx_meet (v2, ts ++ [x5]) (proj_sub [0, 2, 3, 4, 5, 6] (by kernel_rfl)) ⟨((((((Chg.refl [b2] w12).step h37 (by omega) (by intro y hy; simp only [List.mem_cons, List.not_mem_nil, or_false, false_or] at hy ⊢; try omega)).step0 c13 (by omega)).step0 c14 (by omega)).step0 c15 (by omega)).step c17 (by omega) (by intro y hy; simp only [List.mem_cons, List.not_mem_nil, or_false, false_or] at hy ⊢; try omega)), h53, h54, (show Ended r x1 x3 n1 (ts ++ [x5]) by first | (exfalso; omega) | exact fun fr to at_ b k hw => atTo_end (x := []) (s' := []) (ok := true) (atTo_step hat (h44.tt q5) (h45 q5)) (.inr (by omega)) hw), (show (ts ++ [x5]).length ≤ 101 by first | omega | (simp only [List.length_append, List.length_cons, List.length_nil]; omega)), (show ∀ s : Bytes, s ∈ (ts ++ [x5]) → s.length ≤ 1000000 by first | exact htsl | exact fun s hs => (List.mem_append.1 hs).elim (htsl s) (fun h => by rw [List.mem_singleton.1 h]; omega))⟩
  refine at_skip (nx_blk ?_)
  refine nx_round (v2, ts ++ [x5], r5, ok6) (proj_sub [0, 2, 3, 4, 5, 6, 7, 8] (by kernel_rfl)) ⟨((((((Chg.refl [b2] w12).step h37 (by omega) (by intro y hy; simp only [List.mem_cons, List.not_mem_nil, or_false, false_or] at hy ⊢; try omega)).step0 c13 (by omega)).step0 c14 (by omega)).step0 c15 (by omega)).step c17 (by omega) (by intro y hy; simp only [List.mem_cons, List.not_mem_nil, or_false, false_or] at hy ⊢; try omega)), h53, h54, (show (ts ++ [x5]).length ≤ 100 by first | omega | (simp only [List.length_append, List.length_cons, List.length_nil]; omega)), (show (if ok6 = true then AtTo r x1 x3 n1 (ts ++ [x5]) r5 else Ended r x1 x3 n1 (ts ++ [x5])) by rw [q5]; exact atTo_step hat (h44.tt q5) (h45 q5)), (show ∀ s : Bytes, s ∈ (ts ++ [x5]) → s.length ≤ 1000000 by first | exact htsl | exact fun s hs => (List.mem_append.1 hs).elim (htsl s) (fun h => by rw [List.mem_singleton.1 h]; omega)), (show r5.length ≤ 1000000 by first | omega | (simp only [List.length_append, List.length_cons, List.length_nil, List.length_take, List.length_drop, List.length_map]; omega))⟩ (show 2 * (102 - (ts ++ [x5]).length) + (if ok6 = true then 1 else 0) < 2 * (102 - ts.length) + (if ok = true then 1 else 0) by (rw [hok0, q5]; simp only [List.length_append, List.length_cons, List.length_nil, if_true, Bool.false_eq_true, if_false]; omega))
  refine at_skip (nx_seq (at_seq (at_region ?_)))
  refine ops_run1 (l' := [(0, rv), (2, .pointer (some ⟨b1, 0, none⟩)), (3, .slice none 0 0), (4, .int .i64 0), (5, .pointer (some ⟨b2, 0, none⟩)), (6, S x1), (7, S r5), (8, .bool ok6), (73, .pointer (some ⟨b2, 1, none⟩))]) (by kernel_rfl) ?_
  have h55 := h38.keep0 c13 (by omega)
  refine ops_loadB (i := 1) (v := tv) (by kernel_rfl) (by kernel_rfl) (by kernel_rfl) (by kernel_rfl) h55 (by kernel_rfl) ?_
  have h56 := h39.keep c13 (by omega) (fun _ _ _ => by simp)
  refine ops_len (e := 9) (by kernel_rfl) (by kernel_rfl) (by kernel_rfl) (by kernel_rfl) h56.sl ?_
  refine ops_run1 (l' := [(0, rv), (2, .pointer (some ⟨b1, 0, none⟩)), (3, .slice none 0 0), (4, .int .i64 0), (5, .pointer (some ⟨b2, 0, none⟩)), (6, S x1), (7, S r5), (8, .bool ok6), (76, .bool (decide (((ts.length : Int) : Int) > (100 : Int))))]) (by kernel_rfl) ?_
  refine ops_nil (nx_seq ?_)
  refine at_ifp (((ts.length : Int) : Int) > (100 : Int)) (by kernel_rfl) (fun q7 => ?_) (fun q7 => ?_)
  refine at_exit (ex_past rfl (ex_inv (ex_here ?_)))
  exact nx_meet (tv, ts) (proj_sub [0, 2, 3, 4, 5, 6] (by kernel_rfl)) ⟨(((Chg.refl [b2] w12).step h37 (by omega) (by intro y hy; simp only [List.mem_cons, List.not_mem_nil, or_false, false_or] at hy ⊢; try omega)).step0 c13 (by omega)), h55, h56, (show Ended r x1 x3 n1 ts by first | (exfalso; omega) | exact fun fr to at_ b k hw => atTo_end (x := []) (s' := []) (ok := true) (atTo_step hat (h44.tt q5) (h45 q5)) (.inr (by omega)) hw), (show ts.length ≤ 101 by first | omega | (simp only [List.length_append, List.length_cons, List.length_nil]; omega)), (show ∀ s : Bytes, s ∈ ts → s.length ≤ 1000000 by first | exact htsl | exact fun s hs => (List.mem_append.1 hs).elim (htsl s) (fun h => by rw [List.mem_singleton.1 h]; omega))⟩
  refine at_skip (nx_blk ?_)
  refine nx_round (tv, ts, r5, ok6) (proj_sub [0, 2, 3, 4, 5, 6, 7, 8] (by kernel_rfl)) ⟨(((Chg.refl [b2] w12).step h37 (by omega) (by intro y hy; simp only [List.mem_cons, List.not_mem_nil, or_false, false_or] at hy ⊢; try omega)).step0 c13 (by omega)), h55, h56, (show ts.length ≤ 100 by first | omega | (simp only [List.length_append, List.length_cons, List.length_nil]; omega)), (show (if ok6 = true then AtTo r x1 x3 n1 ts r5 else Ended r x1 x3 n1 ts) by rw [q5]; exact fun fr to at_ b k hw => atTo_end hat (.inl ⟨h44, q5⟩) hw), (show ∀ s : Bytes, s ∈ ts → s.length ≤ 1000000 by first | exact htsl | exact fun s hs => (List.mem_append.1 hs).elim (htsl s) (fun h => by rw [List.mem_singleton.1 h]; omega)), (show r5.length ≤ 1000000 by first | omega | (simp only [List.length_append, List.length_cons, List.length_nil, List.length_take, List.length_drop, List.length_map]; omega))⟩ (show 2 * (102 - ts.length) + (if ok6 = true then 1 else 0) < 2 * (102 - ts.length) + (if ok = true then 1 else 0) by (rw [hok0, q5]; simp only [List.length_append, List.length_cons, List.length_nil, if_true, Bool.false_eq_true, if_false]; omega))
  rw [q4] at hat
  have hok0 := q4
  simp only [Bool.false_eq_true, if_false] at hat
  refine at_exit (ex_seq (ex_inv (ex_here ?_)))
  exact nx_meet (tv, ts) (proj_sub [0, 2, 3, 4, 5, 6] (by kernel_rfl)) ⟨((Chg.refl [b2] w12).step h37 (by omega) (by intro y hy; simp only [List.mem_cons, List.not_mem_nil, or_false, false_or] at hy ⊢; try omega)), h38, h39, (show Ended r x1 x3 n1 ts by exact hat), (show ts.length ≤ 101 by first | omega | (simp only [List.length_append, List.length_cons, List.length_nil]; omega)), (show ∀ s : Bytes, s ∈ ts → s.length ≤ 1000000 by first | exact htsl | exact fun s hs => (List.mem_append.1 hs).elim (htsl s) (fun h => by rw [List.mem_singleton.1 h]; omega))⟩
  rintro ⟨tv, ts⟩ w18 ⟨h57, h58, h59, h60, h61, h62⟩
  replace h57 : Chg [b2] (w12.heap.size) w12 w18 := h57
  replace h58 : Blk w18 b2 [S x3, tv, .int .i64 n1] 26 := h58
  replace h59 : OwnS w18 w12.heap.size tv ts := h59
  replace h60 : (Ended r x1 x3 n1 ts) := h60
  replace h61 : (ts.length ≤ 101) := h61
  replace h62 : (∀ s : Bytes, s ∈ ts → s.length ≤ 1000000) := h62
  have z28 := h57.size
  have z29 := h58.lt
  have hend := h60
  have htl2 : ts.length ≤ 101 := h61
  have htsl := h62
  refine at_seq (at_region ?_)
  refine ops_loadS (i := 0) (vs := [S x3, tv, .int .i64 n1]) 3 (by kernel_rfl) (by kernel_rfl) (by kernel_rfl) (by kernel_rfl) (by kernel_rfl) h58 (by kernel_rfl) (by kernel_rfl) ?_
  refine ops_run1 (l' := [(0, rv), (2, .pointer (some ⟨b1, 0, none⟩)), (3, .slice none 0 0), (4, .int .i64 0), (5, .pointer (some ⟨b2, 0, none⟩)), (6, S x1), (77, .agg #[S x3, tv, .int .i64 n1]), (78, S x1)]) (by kernel_rfl) ?_
  have h63 := hg.keep0 c1 (by omega)
  have h64 := h63.keep0 c2 (by omega)
  have h65 := h64.keep0 c3 (by omega)
  have h66 := h65.keep0 c5 (by omega)
  have h67 := h66.keep0 c7 (by omega)
  have h68 := h67.keep c8 (by omega) (by intro y hy; simp only [List.mem_cons, List.not_mem_nil, or_false]; omega)
  have h69 := h68.keep0 c10 (by omega)
  have h70 := h69.keep0 c11 (by omega)
  have h71 := h70.keep c12 (by omega) (by intro y hy; simp only [List.mem_cons, List.not_mem_nil, or_false]; omega)
  have h72 := h71.keep h57 (by omega) (by intro y hy; simp only [List.mem_cons, List.not_mem_nil, or_false]; omega)
  refine ops_callr (by kernel_rfl) (by kernel_rfl) (by kernel_rfl) (head_ok x3 ts (n1) x1 h59.sl (by omega) htsl (by omega) (by omega) (by omega) (by first | omega | (simp only [List.length_append, List.length_cons, List.length_nil, List.length_take, List.length_drop, List.length_map]; omega)) h72) ?_
  rintro _ w19 ⟨rfl, c18⟩
  have z30 := c18.size
  have ab1 := ahead_bound (fr := x3) (to := ts) (at_ := n1) (n := x1) (by omega) htsl (by first | omega | (simp only [List.length_append, List.length_cons, List.length_nil, List.length_take, List.length_drop, List.length_map]; omega)) (by omega) (by omega) (by omega)
  refine ops_run1 (l' := [(0, rv), (2, .pointer (some ⟨b1, 0, none⟩)), (3, .slice none 0 0), (4, .int .i64 0), (5, .pointer (some ⟨b2, 0, none⟩)), (6, S x1), (11, S (linesP (aheadL x3 ts (n1) x1)))]) (by kernel_rfl) ?_
  refine ops_nil (nx_seq (at_seq (at_region ?_)))
  refine ops_run1 (l' := [(0, rv), (2, .pointer (some ⟨b1, 0, none⟩)), (3, .slice none 0 0), (4, .int .i64 0), (5, .pointer (some ⟨b2, 0, none⟩)), (11, S (linesP (aheadL x3 ts (n1) x1))), (80, S x1)]) (by kernel_rfl) ?_
  refine ops_cat (a := [13, 10, 45, 45]) (b := x1) (by kernel_rfl) (by kernel_rfl) (by kernel_rfl) (by kernel_rfl) (by first | omega | (simp only [List.length_append, List.length_cons, List.length_nil, List.length_take, List.length_drop, List.length_map]; omega)) ?_
  refine ops_cat (a := [13, 10, 45, 45] ++ x1) (b := [45, 45, 13, 10]) (by kernel_rfl) (by kernel_rfl) (by kernel_rfl) (by kernel_rfl) (by first | omega | (simp only [List.length_append, List.length_cons, List.length_nil, List.length_take, List.length_drop, List.length_map]; omega)) ?_
  obtain ⟨tl, htl⟩ : ∃ t : Bytes, t = ([13, 10, 45, 45] ++ x1) ++ [45, 45, 13, 10] := ⟨_, rfl⟩
  rw [← htl]
  have htll : tl.length = x1.length + 8 := by rw [htl]; simp
  have htp : tailP x1 = tl := by rw [htl]; unfold tailP; simp [linesP]
  refine ops_run1 (l' := [(0, rv), (2, .pointer (some ⟨b1, 0, none⟩)), (3, .slice none 0 0), (4, .int .i64 0), (5, .pointer (some ⟨b2, 0, none⟩)), (11, S (linesP (aheadL x3 ts (n1) x1))), (12, S tl)]) (by kernel_rfl) ?_
  refine ops_nil (nx_seq (at_seq (at_seq (at_region ?_))))
  refine ops_run1 (l' := [(0, rv), (2, .pointer (some ⟨b1, 0, none⟩)), (3, .slice none 0 0), (4, .int .i64 0), (5, .pointer (some ⟨b2, 0, none⟩)), (11, S (linesP (aheadL x3 ts (n1) x1))), (12, S tl), (83, rv)]) (by kernel_rfl) ?_
  have h73 := h4.keep0 c3 (by omega)
  have h74 := h73.keep0 c5 (by omega)
  have h75 := h74.keep0 c7 (by omega)
  have h76 := h75.keep1 c8 (by omega) (by omega)
  have h77 := h76.keep0 c10 (by omega)
  have h78 := h77.keep0 c11 (by omega)
  have h79 := h78.keep1 c12 (by omega) (by omega)
  have h80 := h79.keep1 h57 (by omega) (by omega)
  have h81 := h80.keep0 c18 (by omega)
  refine ops_len (e := 5) (by kernel_rfl) (by kernel_rfl) (by kernel_rfl) (by kernel_rfl) h81 ?_
  refine ops_run4 (l' := [(0, rv), (2, .pointer (some ⟨b1, 0, none⟩)), (3, .slice none 0 0), (4, .int .i64 0), (5, .pointer (some ⟨b2, 0, none⟩)), (11, S (linesP (aheadL x3 ts (n1) x1))), (12, S tl), (84, .int .i64 ((r.length : Int))), (86, .int .i64 ((((linesP (aheadL x3 ts (n1) x1)).length : Nat) : Int))), (88, .int .i64 ((tl.length : Int)))]) (by kernel_rfl) ?_
  refine ops_add (a := (((linesP (aheadL x3 ts (n1) x1)).length : Nat) : Int)) (b := (tl.length : Int)) (kd := .i64) (by kernel_rfl) (by kernel_rfl) (by kernel_rfl) (by kernel_rfl) (show (-9223372036854775808 : Int) ≤ ((((linesP (aheadL x3 ts (n1) x1)).length : Nat) : Int)) + ((tl.length : Int)) by omega) (show ((((linesP (aheadL x3 ts (n1) x1)).length : Nat) : Int)) + ((tl.length : Int)) ≤ (9223372036854775807 : Int) by omega) ?_
  refine ops_run1 (l' := [(0, rv), (2, .pointer (some ⟨b1, 0, none⟩)), (3, .slice none 0 0), (4, .int .i64 0), (5, .pointer (some ⟨b2, 0, none⟩)), (11, S (linesP (aheadL x3 ts (n1) x1))), (12, S tl), (90, .bool (decide (((r.length : Int) : Int) < (((((linesP (aheadL x3 ts (n1) x1)).length : Nat) : Int)) + ((tl.length : Int)) : Int))))]) (by kernel_rfl) ?_
  refine ops_nil (nx_seq ?_)
  refine at_ifp (((r.length : Int) : Int) < (((((linesP (aheadL x3 ts (n1) x1)).length : Nat) : Int)) + ((tl.length : Int)) : Int)) (by kernel_rfl) (fun q8 => ?_) (fun q8 => ?_)
  refine at_seq (at_region ?_)
  refine ops_run1 (l' := [(0, rv), (2, .pointer (some ⟨b1, 0, none⟩)), (3, .slice none 0 0), (4, .int .i64 0), (5, .pointer (some ⟨b2, 0, none⟩)), (11, S (linesP (aheadL x3 ts (n1) x1))), (12, S tl), (91, .agg #[S [], .slice none 0 0, .int .i64 0])]) (by kernel_rfl) ?_
  have h82 := h1.keep0 c2 (by omega)
  have h83 := h82.keep0 c3 (by omega)
  have h84 := h83.keep0 c5 (by omega)
  have h85 := h84.keep0 c7 (by omega)
  have h86 := h85.keep1 c8 (by omega) (by omega)
  have h87 := h86.keep0 c10 (by omega)
  have h88 := h87.keep0 c11 (by omega)
  have h89 := h88.keep1 c12 (by omega) (by omega)
  have h90 := h89.keep1 h57 (by omega) (by omega)
  have h91 := h90.keep0 c18 (by omega)
  refine ops_storeS (i := 0) (vs := [S [], .slice none 0 0, .int .i64 0]) [S [], .slice none 0 0, .int .i64 0] (by kernel_rfl) (by kernel_rfl) (by kernel_rfl) (by kernel_rfl) (by kernel_rfl) (by kernel_rfl) h91 (by kernel_rfl) (by kernel_rfl) (fun w20 h92 c19 z31 => ?_)
  have z32 := c19.size
  refine ops_run2 (l' := [(0, rv), (2, .pointer (some ⟨b1, 0, none⟩)), (3, .slice none 0 0), (4, .int .i64 110), (5, .pointer (some ⟨b2, 0, none⟩)), (11, S (linesP (aheadL x3 ts (n1) x1))), (12, S tl)]) (by kernel_rfl) ?_
  refine ops_nil (nx_seq ?_)
  refine at_retV (rs := [.cell 2 26, .tmp 3, .tmp 4]) (vs := [.agg #[S [], .slice none 0 0, .int .i64 0], .slice none 0 0, .int .i64 110]) rfl (ResV.cellS (by kernel_rfl) h92 (by kernel_rfl) (by kernel_rfl) (ResV.tmp (by kernel_rfl) (ResV.tmp (by kernel_rfl) ResV.nil))) ?_
  exact ⟨_, rfl, (((((((((((((Chg.refl [] w).step0 c1 (by omega)).step0 c2 (by omega)).step0 c3 (by omega)).step0 c5 (by omega)).step0 c7 (by omega)).step c8 (by omega) (by intro y hy; simp only [List.mem_cons, List.not_mem_nil, or_false, false_or] at hy ⊢; try omega)).step0 c10 (by omega)).step0 c11 (by omega)).step c12 (by omega) (by intro y hy; simp only [List.mem_cons, List.not_mem_nil, or_false, false_or] at hy ⊢; try omega)).step h57 (by omega) (by intro y hy; simp only [List.mem_cons, List.not_mem_nil, or_false, false_or] at hy ⊢; try omega)).step0 c18 (by omega)).step c19 (by omega) (by intro y hy; simp only [List.mem_cons, List.not_mem_nil, or_false, false_or] at hy ⊢; try omega)), .inr ⟨ended_room hend (by rw [htp]; omega), rfl⟩⟩
  refine at_skip (nx_seq (at_seq (at_region ?_)))
  refine ops_run4 (l' := [(0, rv), (2, .pointer (some ⟨b1, 0, none⟩)), (3, .slice none 0 0), (4, .int .i64 0), (5, .pointer (some ⟨b2, 0, none⟩)), (12, S tl), (92, rv), (94, .int .i64 ((((linesP (aheadL x3 ts (n1) x1)).length : Nat) : Int))), (95, rv)]) (by kernel_rfl) ?_
  refine ops_len (e := 5) (by kernel_rfl) (by kernel_rfl) (by kernel_rfl) (by kernel_rfl) h81 ?_
  refine ops_run2 (l' := [(0, rv), (2, .pointer (some ⟨b1, 0, none⟩)), (3, .slice none 0 0), (4, .int .i64 0), (5, .pointer (some ⟨b2, 0, none⟩)), (92, rv), (94, .int .i64 ((((linesP (aheadL x3 ts (n1) x1)).length : Nat) : Int))), (96, .int .i64 ((r.length : Int))), (98, .int .i64 ((tl.length : Int)))]) (by kernel_rfl) ?_
  refine ops_sub_ (a := (r.length : Int)) (b := (tl.length : Int)) (kd := .i64) (by kernel_rfl) (by kernel_rfl) (by kernel_rfl) (by kernel_rfl) (show (-9223372036854775808 : Int) ≤ ((r.length : Int)) - ((tl.length : Int)) by omega) (show ((r.length : Int)) - ((tl.length : Int)) ≤ (9223372036854775807 : Int) by omega) ?_
  refine ops_part (e := 5) (i := (((linesP (aheadL x3 ts (n1) x1)).length : Nat) : Int)) (kd := .i64) (i' := ((r.length : Int)) - ((tl.length : Int))) (kd' := .i64) ((linesP (aheadL x3 ts (n1) x1)).length) ((r.length) - (tl.length)) (by kernel_rfl) (by kernel_rfl) (by kernel_rfl) (by kernel_rfl) (by kernel_rfl) (by kernel_rfl) (by kernel_rfl) h81 (by first | omega | (simp only [List.length_append, List.length_cons, List.length_nil, List.length_take, List.length_drop, List.length_map]; omega)) (by first | omega | (simp only [List.length_append, List.length_cons, List.length_nil, List.length_take, List.length_drop, List.length_map]; omega)) (by first | omega | (simp only [List.length_append, List.length_cons, List.length_nil, List.length_take, List.length_drop, List.length_map]; omega)) (by first | omega | (simp only [List.length_append, List.length_cons, List.length_nil, List.length_take, List.length_drop, List.length_map]; omega)) (fun v3 h93 => ?_)
  replace h93 := bs_part h93 (by omega)
  refine ops_appendB (e := 5) (by_ := 1) (l1 := []) (l2 := ((r.drop ((linesP (aheadL x3 ts (n1) x1)).length)).take (((r.length) - (tl.length)) - ((linesP (aheadL x3 ts (n1) x1)).length)))) (by kernel_rfl) (by kernel_rfl) (by kernel_rfl) (by kernel_rfl) (by kernel_rfl) (by kernel_rfl) (by kernel_rfl) (Own.nil w19 w19.heap.size 1 (Nat.le_refl _)) h93 (by first | omega | (simp only [List.length_append, List.length_cons, List.length_nil, List.length_take, List.length_drop, List.length_map]; omega)) (fun v4 w21 h95 c20 c21 => ?_)
  have z33 := c20.size
  obtain ⟨b, hbq⟩ : ∃ b, b = [] ++ ((r.drop ((linesP (aheadL x3 ts (n1) x1)).length)).take (((r.length) - (tl.length)) - ((linesP (aheadL x3 ts (n1) x1)).length))) := ⟨_, rfl⟩
  rw [← hbq] at h95
  have hbd : b = (r.drop (linesP (aheadL x3 ts n1 x1)).length).take (r.length - (tailP x1).length - (linesP (aheadL x3 ts n1 x1)).length) := by rw [hbq, htp]; simp only [List.nil_append]
  refine ops_run1 (l' := [(0, rv), (2, .pointer (some ⟨b1, 0, none⟩)), (3, .slice none 0 0), (4, .int .i64 0), (5, .pointer (some ⟨b2, 0, none⟩)), (13, v4)]) (by kernel_rfl) ?_
  refine ops_nil (nx_seq (at_seq (at_region ?_)))
  have h96 := h58.keep0 c18 (by omega)
  have h97 := h96.keep0 c20 (by omega)
  refine ops_loadS (i := 0) (vs := [S x3, tv, .int .i64 n1]) 3 (by kernel_rfl) (by kernel_rfl) (by kernel_rfl) (by kernel_rfl) (by kernel_rfl) h97 (by kernel_rfl) (by kernel_rfl) ?_
  refine ops_run1 (l' := [(0, rv), (2, .pointer (some ⟨b1, 0, none⟩)), (3, .slice none 0 0), (4, .int .i64 0), (5, .pointer (some ⟨b2, 0, none⟩)), (13, v4), (103, .agg #[S x3, tv, .int .i64 n1]), (104, v4)]) (by kernel_rfl) ?_
  have h98 := h59.keep c18 (by omega) (fun _ _ _ => by simp)
  have h99 := h98.keep c20 (by omega) (fun _ _ _ => by simp)
  have h103 := h72.keep0 c18 (by omega)
  have h104 := h103.keep0 c20 (by omega)
  refine ops_callr (by kernel_rfl) (by kernel_rfl) (by kernel_rfl) (rReport_ok x3 ts (n1) b h99.sl h95.sl (by omega) (fun s hs => Nat.lt_of_le_of_lt (htsl s hs) (by omega)) (by omega) (by omega) h104) ?_
  rintro _ w22 ⟨c22, (⟨h100, k1, v5, h101, rfl, h102⟩ | ⟨h100, rfl⟩)⟩
  have z34 := c22.size
  refine ops_run5 (l' := [(0, rv), (2, .pointer (some ⟨b1, 0, none⟩)), (3, .slice none 0 0), (4, .int .i64 0), (5, .pointer (some ⟨b2, 0, none⟩)), (13, v4), (14, v5), (15, .int .i64 0)]) (by kernel_rfl) ?_
  refine ops_nil (nx_seq (at_seq (at_seq (at_region ?_))))
  refine ops_run4 (l' := [(0, rv), (2, .pointer (some ⟨b1, 0, none⟩)), (3, .slice none 0 0), (4, .int .i64 0), (5, .pointer (some ⟨b2, 0, none⟩)), (13, v4), (110, .bool false), (111, v5)]) (by kernel_rfl) ?_
  refine ops_toS (b := repB x3 ts (n1) b (jn k1)) (by kernel_rfl) (by kernel_rfl) (by kernel_rfl) (by kernel_rfl) (by kernel_rfl) h102 ?_
  refine ops_run1 (l' := [(2, .pointer (some ⟨b1, 0, none⟩)), (3, .slice none 0 0), (4, .int .i64 0), (5, .pointer (some ⟨b2, 0, none⟩)), (13, v4), (110, .bool false), (112, S (repB x3 ts (n1) b (jn k1))), (113, rv)]) (by kernel_rfl) ?_
  have h105 := h81.keep0 c20 (by omega)
  have h106 := h105.keep0 c22 (by omega)
  refine ops_toS (b := r) (by kernel_rfl) (by kernel_rfl) (by kernel_rfl) (by kernel_rfl) (by kernel_rfl) h106 ?_
  refine ops_neS (a := repB x3 ts (n1) b (jn k1)) (b := r) (by kernel_rfl) (by kernel_rfl) (by kernel_rfl) (by kernel_rfl) ?_
  refine ops_run1 (l' := [(2, .pointer (some ⟨b1, 0, none⟩)), (3, .slice none 0 0), (4, .int .i64 0), (5, .pointer (some ⟨b2, 0, none⟩)), (13, v4), (116, .bool (decide ((repB x3 ts (n1) b (jn k1) : Bytes) ≠ r)))]) (by kernel_rfl) ?_
  refine ops_nil (nx_seq ?_)
  refine at_ifp ((repB x3 ts (n1) b (jn k1) : Bytes) ≠ r) (by kernel_rfl) (fun q9 => ?_) (fun q9 => ?_)
  refine at_seq (at_region ?_)
  refine ops_run1 (l' := [(2, .pointer (some ⟨b1, 0, none⟩)), (3, .slice none 0 0), (4, .int .i64 0), (5, .pointer (some ⟨b2, 0, none⟩)), (13, v4), (117, .agg #[S [], .slice none 0 0, .int .i64 0])]) (by kernel_rfl) ?_
  have h107 := h1.keep0 c2 (by omega)
  have h108 := h107.keep0 c3 (by omega)
  have h109 := h108.keep0 c5 (by omega)
  have h110 := h109.keep0 c7 (by omega)
  have h111 := h110.keep1 c8 (by omega) (by omega)
  have h112 := h111.keep0 c10 (by omega)
  have h113 := h112.keep0 c11 (by omega)
  have h114 := h113.keep1 c12 (by omega) (by omega)
  have h115 := h114.keep1 h57 (by omega) (by omega)
  have h116 := h115.keep0 c18 (by omega)
  have h117 := h116.keep0 c20 (by omega)
  have h118 := h117.keep0 c22 (by omega)
  refine ops_storeS (i := 0) (vs := [S [], .slice none 0 0, .int .i64 0]) [S [], .slice none 0 0, .int .i64 0] (by kernel_rfl) (by kernel_rfl) (by kernel_rfl) (by kernel_rfl) (by kernel_rfl) (by kernel_rfl) h118 (by kernel_rfl) (by kernel_rfl) (fun w23 h119 c23 z35 => ?_)
  have z36 := c23.size
  refine ops_run2 (l' := [(2, .pointer (some ⟨b1, 0, none⟩)), (3, .slice none 0 0), (4, .int .i64 110), (5, .pointer (some ⟨b2, 0, none⟩)), (13, v4)]) (by kernel_rfl) ?_
  refine ops_nil (nx_seq ?_)
  refine at_retV (rs := [.cell 2 26, .tmp 3, .tmp 4]) (vs := [.agg #[S [], .slice none 0 0, .int .i64 0], .slice none 0 0, .int .i64 110]) rfl (ResV.cellS (by kernel_rfl) h119 (by kernel_rfl) (by kernel_rfl) (ResV.tmp (by kernel_rfl) (ResV.tmp (by kernel_rfl) ResV.nil))) ?_
  exact ⟨_, rfl, (((((((((((((((Chg.refl [] w).step0 c1 (by omega)).step0 c2 (by omega)).step0 c3 (by omega)).step0 c5 (by omega)).step0 c7 (by omega)).step c8 (by omega) (by intro y hy; simp only [List.mem_cons, List.not_mem_nil, or_false, false_or] at hy ⊢; try omega)).step0 c10 (by omega)).step0 c11 (by omega)).step c12 (by omega) (by intro y hy; simp only [List.mem_cons, List.not_mem_nil, or_false, false_or] at hy ⊢; try omega)).step h57 (by omega) (by intro y hy; simp only [List.mem_cons, List.not_mem_nil, or_false, false_or] at hy ⊢; try omega)).step0 c18 (by omega)).step0 c20 (by omega)).step0 c22 (by omega)).step c23 (by omega) (by intro y hy; simp only [List.mem_cons, List.not_mem_nil, or_false, false_or] at hy ⊢; try omega)), .inr ⟨ended_same hend hbd (.inr ⟨_, h101, q9⟩), rfl⟩⟩
  refine at_skip (nx_seq (at_seq (at_region ?_)))
  have h120 := h97.keep0 c22 (by omega)
  refine ops_loadS (i := 0) (vs := [S x3, tv, .int .i64 n1]) 3 (by kernel_rfl) (by kernel_rfl) (by kernel_rfl) (by kernel_rfl) (by kernel_rfl) h120 (by kernel_rfl) (by kernel_rfl) ?_
  refine ops_run1 (l' := [(2, .pointer (some ⟨b1, 0, none⟩)), (3, .slice none 0 0), (4, .int .i64 0), (118, .agg #[S x3, tv, .int .i64 n1]), (119, v4)]) (by kernel_rfl) ?_
  have h121 := h1.keep0 c2 (by omega)
  have h122 := h121.keep0 c3 (by omega)
  have h123 := h122.keep0 c5 (by omega)
  have h124 := h123.keep0 c7 (by omega)
  have h125 := h124.keep1 c8 (by omega) (by omega)
  have h126 := h125.keep0 c10 (by omega)
  have h127 := h126.keep0 c11 (by omega)
  have h128 := h127.keep1 c12 (by omega) (by omega)
  have h129 := h128.keep1 h57 (by omega) (by omega)
  have h130 := h129.keep0 c18 (by omega)
  have h131 := h130.keep0 c20 (by omega)
  have h132 := h131.keep0 c22 (by omega)
  have h134 := h99.keep c22 (by omega) (fun _ _ _ => by simp)
  refine ops_storeS (i := 0) (vs := [S x3, tv, .int .i64 n1]) [S x3, tv, .int .i64 n1] (by kernel_rfl) (by kernel_rfl) (by kernel_rfl) (by kernel_rfl) (by simp only [List.all_cons, List.all_nil, h134.sl.one, Bool.and_true, Bool.true_and] <;> rfl) (by kernel_rfl) h132 (by kernel_rfl) (by kernel_rfl) (fun w24 h133 c24 z37 => ?_)
  have z38 := c24.size
  refine ops_run2 (l' := [(2, .pointer (some ⟨b1, 0, none⟩)), (3, v4), (4, .int .i64 0)]) (by kernel_rfl) ?_
  refine ops_nil (nx_seq ?_)
  refine at_retV (rs := [.cell 2 26, .tmp 3, .tmp 4]) (vs := [.agg #[S x3, tv, .int .i64 n1], v4, .int .i64 0]) rfl (ResV.cellS (by kernel_rfl) h133 (by kernel_rfl) (by kernel_rfl) (ResV.tmp (by kernel_rfl) (ResV.tmp (by kernel_rfl) ResV.nil))) ?_
  have h135 := h134.keep c24 (by omega) (fun b _ _ => by simp only [List.mem_cons, List.not_mem_nil, or_false, not_or]; omega)
  have h136 := h95.keep c22 (by omega) (fun _ _ _ => by simp)
  have h137 := h136.keep c24 (by omega) (fun b _ _ => by simp only [List.mem_cons, List.not_mem_nil, or_false, not_or]; omega)
  exact ⟨_, rfl, (((((((((((((((Chg.refl [] w).step0 c1 (by omega)).step0 c2 (by omega)).step0 c3 (by omega)).step0 c5 (by omega)).step0 c7 (by omega)).step c8 (by omega) (by intro y hy; simp only [List.mem_cons, List.not_mem_nil, or_false, false_or] at hy ⊢; try omega)).step0 c10 (by omega)).step0 c11 (by omega)).step c12 (by omega) (by intro y hy; simp only [List.mem_cons, List.not_mem_nil, or_false, false_or] at hy ⊢; try omega)).step h57 (by omega) (by intro y hy; simp only [List.mem_cons, List.not_mem_nil, or_false, false_or] at hy ⊢; try omega)).step0 c18 (by omega)).step0 c20 (by omega)).step0 c22 (by omega)).step c24 (by omega) (by intro y hy; simp only [List.mem_cons, List.not_mem_nil, or_false, false_or] at hy ⊢; try omega)), .inl ⟨_, ts, n1, b, k1, tv, _, ⟨h100, by omega, h101, Eq.symm (Decidable.of_not_not q9)⟩, rfl, (h135.sl).wide (by omega) (by omega) (Nat.le_refl _), (h137.sl).wide (by omega) (by omega) (Nat.le_refl _)⟩⟩
  have z39 := c22.size
  rcases repErr_ne x3 ts (n1) with he | he
  rw [he]
  refine ops_run5 (l' := [(0, rv), (2, .pointer (some ⟨b1, 0, none⟩)), (3, .slice none 0 0), (4, .int .i64 0), (5, .pointer (some ⟨b2, 0, none⟩)), (13, v4), (14, .slice none 0 0), (15, .int .i64 2)]) (by kernel_rfl) ?_
  refine ops_nil (nx_seq (at_seq (at_seq (at_region ?_))))
  refine ops_run9 (l' := [(2, .pointer (some ⟨b1, 0, none⟩)), (3, .slice none 0 0), (4, .int .i64 0), (5, .pointer (some ⟨b2, 0, none⟩)), (13, v4), (116, .bool true)]) (by kernel_rfl) ?_
  refine ops_nil (nx_seq ?_)
  refine at_ift (by kernel_rfl) ?_
  refine at_seq (at_region ?_)
  refine ops_run1 (l' := [(2, .pointer (some ⟨b1, 0, none⟩)), (3, .slice none 0 0), (4, .int .i64 0), (5, .pointer (some ⟨b2, 0, none⟩)), (13, v4), (117, .agg #[S [], .slice none 0 0, .int .i64 0])]) (by kernel_rfl) ?_
  have h138 := h1.keep0 c2 (by omega)
  have h139 := h138.keep0 c3 (by omega)
  have h140 := h139.keep0 c5 (by omega)
  have h141 := h140.keep0 c7 (by omega)
  have h142 := h141.keep1 c8 (by omega) (by omega)
  have h143 := h142.keep0 c10 (by omega)
  have h144 := h143.keep0 c11 (by omega)
  have h145 := h144.keep1 c12 (by omega) (by omega)
  have h146 := h145.keep1 h57 (by omega) (by omega)
  have h147 := h146.keep0 c18 (by omega)
  have h148 := h147.keep0 c20 (by omega)
  have h149 := h148.keep0 c22 (by omega)
  refine ops_storeS (i := 0) (vs := [S [], .slice none 0 0, .int .i64 0]) [S [], .slice none 0 0, .int .i64 0] (by kernel_rfl) (by kernel_rfl) (by kernel_rfl) (by kernel_rfl) (by kernel_rfl) (by kernel_rfl) h149 (by kernel_rfl) (by kernel_rfl) (fun w25 h150 c25 z40 => ?_)
  have z41 := c25.size
  refine ops_run2 (l' := [(2, .pointer (some ⟨b1, 0, none⟩)), (3, .slice none 0 0), (4, .int .i64 110), (5, .pointer (some ⟨b2, 0, none⟩)), (13, v4)]) (by kernel_rfl) ?_
  refine ops_nil (nx_seq ?_)
  refine at_retV (rs := [.cell 2 26, .tmp 3, .tmp 4]) (vs := [.agg #[S [], .slice none 0 0, .int .i64 0], .slice none 0 0, .int .i64 110]) rfl (ResV.cellS (by kernel_rfl) h150 (by kernel_rfl) (by kernel_rfl) (ResV.tmp (by kernel_rfl) (ResV.tmp (by kernel_rfl) ResV.nil))) ?_
  exact ⟨_, rfl, (((((((((((((((Chg.refl [] w).step0 c1 (by omega)).step0 c2 (by omega)).step0 c3 (by omega)).step0 c5 (by omega)).step0 c7 (by omega)).step c8 (by omega) (by intro y hy; simp only [List.mem_cons, List.not_mem_nil, or_false, false_or] at hy ⊢; try omega)).step0 c10 (by omega)).step0 c11 (by omega)).step c12 (by omega) (by intro y hy; simp only [List.mem_cons, List.not_mem_nil, or_false, false_or] at hy ⊢; try omega)).step h57 (by omega) (by intro y hy; simp only [List.mem_cons, List.not_mem_nil, or_false, false_or] at hy ⊢; try omega)).step0 c18 (by omega)).step0 c20 (by omega)).step0 c22 (by omega)).step c25 (by omega) (by intro y hy; simp only [List.mem_cons, List.not_mem_nil, or_false, false_or] at hy ⊢; try omega)), .inr ⟨ended_same hend hbd (.inl h100), rfl⟩⟩
  rw [he]
  refine ops_run5 (l' := [(0, rv), (2, .pointer (some ⟨b1, 0, none⟩)), (3, .slice none 0 0), (4, .int .i64 0), (5, .pointer (some ⟨b2, 0, none⟩)), (13, v4), (14, .slice none 0 0), (15, .int .i64 110)]) (by kernel_rfl) ?_
  refine ops_nil (nx_seq (at_seq (at_seq (at_region ?_))))
  refine ops_run9 (l' := [(2, .pointer (some ⟨b1, 0, none⟩)), (3, .slice none 0 0), (4, .int .i64 0), (5, .pointer (some ⟨b2, 0, none⟩)), (13, v4), (116, .bool true)]) (by kernel_rfl) ?_
  refine ops_nil (nx_seq ?_)
  refine at_ift (by kernel_rfl) ?_
  refine at_seq (at_region ?_)
  refine ops_run1 (l' := [(2, .pointer (some ⟨b1, 0, none⟩)), (3, .slice none 0 0), (4, .int .i64 0), (5, .pointer (some ⟨b2, 0, none⟩)), (13, v4), (117, .agg #[S [], .slice none 0 0, .int .i64 0])]) (by kernel_rfl) ?_
  have h151 := h1.keep0 c2 (by omega)
  have h152 := h151.keep0 c3 (by omega)
  have h153 := h152.keep0 c5 (by omega)
  have h154 := h153.keep0 c7 (by omega)
  have h155 := h154.keep1 c8 (by omega) (by omega)
  have h156 := h155.keep0 c10 (by omega)
  have h157 := h156.keep0 c11 (by omega)
  have h158 := h157.keep1 c12 (by omega) (by omega)
  have h159 := h158.keep1 h57 (by omega) (by omega)
  have h160 := h159.keep0 c18 (by omega)
  have h161 := h160.keep0 c20 (by omega)
  have h162 := h161.keep0 c22 (by omega)
  refine ops_storeS (i := 0) (vs := [S [], .slice none 0 0, .int .i64 0]) [S [], .slice none 0 0, .int .i64 0] (by kernel_rfl) (by kernel_rfl) (by kernel_rfl) (by kernel_rfl) (by kernel_rfl) (by kernel_rfl) h162 (by kernel_rfl) (by kernel_rfl) (fun w26 h163 c26 z42 => ?_)
  have z43 := c26.size
  refine ops_run2 (l' := [(2, .pointer (some ⟨b1, 0, none⟩)), (3, .slice none 0 0), (4, .int .i64 110), (5, .pointer (some ⟨b2, 0, none⟩)), (13, v4)]) (by kernel_rfl) ?_
  refine ops_nil (nx_seq ?_)
  refine at_retV (rs := [.cell 2 26, .tmp 3, .tmp 4]) (vs := [.agg #[S [], .slice none 0 0, .int .i64 0], .slice none 0 0, .int .i64 110]) rfl (ResV.cellS (by kernel_rfl) h163 (by kernel_rfl) (by kernel_rfl) (ResV.tmp (by kernel_rfl) (ResV.tmp (by kernel_rfl) ResV.nil))) ?_
  exact ⟨_, rfl, (((((((((((((((Chg.refl [] w).step0 c1 (by omega)).step0 c2 (by omega)).step0 c3 (by omega)).step0 c5 (by omega)).step0 c7 (by omega)).step c8 (by omega) (by intro y hy; simp only [List.mem_cons, List.not_mem_nil, or_false, false_or] at hy ⊢; try omega)).step0 c10 (by omega)).step0 c11 (by omega)).step c12 (by omega) (by intro y hy; simp only [List.mem_cons, List.not_mem_nil, or_false, false_or] at hy ⊢; try omega)).step h57 (by omega) (by intro y hy; simp only [List.mem_cons, List.not_mem_nil, or_false, false_or] at hy ⊢; try omega)).step0 c18 (by omega)).step0 c20 (by omega)).step0 c22 (by omega)).step c26 (by omega) (by intro y hy; simp only [List.mem_cons, List.not_mem_nil, or_false, false_or] at hy ⊢; try omega)), .inr ⟨ended_same hend hbd (.inl h100), rfl⟩⟩

end Go.Proofs.YtnjkdnbabogcjaaDoor
