/- A walk, printed by a program of my own (wip/gen/walk.py) from a script of mine. -/
import Derived.Test.YtnjkdnbabogcjaaDoorProg
import Derived.Test.YtnjkdnbabogcjaaDoorL0
import Derived.Test.YtnjkdnbabogcjaaDoorL1
import Derived.Test.YtnjkdnbabogcjaaDoorK15
import Derived.Test.YtnjkdnbabogcjaaDoorP13
set_option maxHeartbeats 4000000
set_option linter.unusedVariables false
set_option linter.unusedSimpArgs false
set_option maxRecDepth 100000
namespace Go.Proofs.YtnjkdnbabogcjaaDoor
open Go Go.RowKit Go.Kw

theorem ahead_ok (fr : Bytes) (to : List Bytes) (at_ : Int) (n : Bytes) {w : World} {lo hi : Nat} {tv : Value} (ht : Ss w lo hi tv to) (hfr : fr.length ≤ 1000000) (hto : ∀ s, s ∈ to → s.length ≤ 1000000) (htl : to.length ≤ 110) (ha0 : -9223372036854775808 ≤ at_) (ha1 : at_ ≤ 9223372036854775807) (hn : n.length ≤ 1000000) (hg : Gl w) : Pu Tryd.prog 53 #[.agg #[S fr, tv, .int .i64 at_], S n] w (S (linesP (aheadL fr to at_ n))) := by
  have hgs := hg.size
  have hab := ahead_bound hfr hto hn htl ha0 ha1
  have hil := itoa_len at_ ha0 ha1
  have hhi := ht.hi_le
  refine enter (n := 39) (args := [.agg #[S fr, tv, .int .i64 at_], S n]) Tryd.func53 rfl rfl (Nat.le_of_ble_eq_true (by kernel_rfl)) ?_
  refine at_seq (at_region ?_)
  refine ops_box (cs := [S fr, tv, .int .i64 at_]) (by kernel_rfl) (by kernel_rfl) (by kernel_rfl) (fun b1 w1 e1 h1 c1 z1 => ?_)
  have z2 := c1.size
  refine ops_run1 (l' := [(1, S n), (2, .pointer (some ⟨b1, 0, none⟩)), (4, S [])]) (by kernel_rfl) ?_
  refine ops_nil (nx_seq (at_seq ?_))
  refine at_draw (m := 13) (listed := (bm 13 0)) (fun W => Blk W b1 [S fr, tv, .int .i64 at_] 26 ∧ True) (by kernel_rfl) (by kernel_rfl) (by kernel_rfl) (fun w2 c2 z3 _ _ => ?_)
  have z4 := c2.size
  have h2 := h1.keep0 c2 (by omega)
  refine ⟨⟨h2, trivial⟩, ?_⟩
  refine any_takes [0] (fuel' := 12) (listed' := (bm 13 1)) (l' := [(1, S n), (2, .pointer (some ⟨b1, 0, none⟩)), (4, S []), (8, S n)]) panK_FB (by kernel_rfl) (by kernel_rfl) (by kernel_rfl) ?_
  refine any_cat (q_ := 1) (listed' := (bm 13 3)) (a := [67, 111, 110, 116, 101, 110, 116, 45, 84, 121, 112, 101, 58, 32, 109, 117, 108, 116, 105, 112, 97, 114, 116, 47, 109, 105, 120, 101, 100, 59, 32, 98, 111, 117, 110, 100, 97, 114, 121, 61]) (b := n) panK_FB (by kernel_rfl) rfl (by kernel_rfl) (by kernel_rfl) (by kernel_rfl) (by kernel_rfl) (by kernel_rfl) (by kernel_rfl) (by first | omega | (simp only [List.length_append, List.length_cons, List.length_nil, List.length_take, List.length_drop, List.length_map]; omega)) ?_
  refine any_takes [2] (fuel' := 10) (listed' := (bm 13 7)) (l' := [(1, S n), (2, .pointer (some ⟨b1, 0, none⟩)), (4, S []), (9, S ([67, 111, 110, 116, 101, 110, 116, 45, 84, 121, 112, 101, 58, 32, 109, 117, 108, 116, 105, 112, 97, 114, 116, 47, 109, 105, 120, 101, 100, 59, 32, 98, 111, 117, 110, 100, 97, 114, 121, 61] ++ n)), (10, S n)]) panK_FB (by kernel_rfl) (by kernel_rfl) (by kernel_rfl) ?_
  refine any_cat (q_ := 3) (listed' := (bm 13 15)) (a := [45, 45]) (b := n) panK_FB (by kernel_rfl) rfl (by kernel_rfl) (by kernel_rfl) (by kernel_rfl) (by kernel_rfl) (by kernel_rfl) (by kernel_rfl) (by first | omega | (simp only [List.length_append, List.length_cons, List.length_nil, List.length_take, List.length_drop, List.length_map]; omega)) ?_
  refine any_takes [4] (fuel' := 8) (listed' := (bm 13 31)) (l' := [(1, S n), (2, .pointer (some ⟨b1, 0, none⟩)), (4, S []), (9, S ([67, 111, 110, 116, 101, 110, 116, 45, 84, 121, 112, 101, 58, 32, 109, 117, 108, 116, 105, 112, 97, 114, 116, 47, 109, 105, 120, 101, 100, 59, 32, 98, 111, 117, 110, 100, 97, 114, 121, 61] ++ n)), (11, S ([45, 45] ++ n)), (12, .pointer (some ⟨b1, 0, none⟩))]) panK_FB (by kernel_rfl) (by kernel_rfl) (by kernel_rfl) ?_
  refine any_load (i := 5) (j := 0) (listed' := (bm 13 63)) (v := S fr) panK_FB (by kernel_rfl) rfl (by kernel_rfl) (by kernel_rfl) (by kernel_rfl) (by kernel_rfl) (by kernel_rfl) (by kernel_rfl) (fun W hW => hW.1) (by kernel_rfl) ?_
  refine any_cat (q_ := 6) (listed' := (bm 13 127)) (a := [83, 101, 110, 100, 101, 114, 58, 32]) (b := fr) panK_FB (by kernel_rfl) rfl (by kernel_rfl) (by kernel_rfl) (by kernel_rfl) (by kernel_rfl) (by kernel_rfl) (by kernel_rfl) (by first | omega | (simp only [List.length_append, List.length_cons, List.length_nil, List.length_take, List.length_drop, List.length_map]; omega)) ?_
  refine any_takes [7] (fuel' := 5) (listed' := (bm 13 255)) (l' := [(1, S n), (2, .pointer (some ⟨b1, 0, none⟩)), (4, S []), (9, S ([67, 111, 110, 116, 101, 110, 116, 45, 84, 121, 112, 101, 58, 32, 109, 117, 108, 116, 105, 112, 97, 114, 116, 47, 109, 105, 120, 101, 100, 59, 32, 98, 111, 117, 110, 100, 97, 114, 121, 61] ++ n)), (11, S ([45, 45] ++ n)), (14, S ([83, 101, 110, 100, 101, 114, 58, 32] ++ fr)), (15, .pointer (some ⟨b1, 2, none⟩))]) panK_FB (by kernel_rfl) (by kernel_rfl) (by kernel_rfl) ?_
  refine any_load (i := 8) (j := 2) (listed' := (bm 13 511)) (v := .int .i64 at_) panK_FB (by kernel_rfl) rfl (by kernel_rfl) (by kernel_rfl) (by kernel_rfl) (by kernel_rfl) (by kernel_rfl) (by kernel_rfl) (fun W hW => hW.1) (by kernel_rfl) ?_
  refine any_1 9 (bm 13 1023) (by kernel_rfl) rfl (by kernel_rfl) ?_
  have h3 := hg.keep0 c1 (by omega)
  have h4 := h3.keep0 c2 (by omega)
  refine ops_callr (by kernel_rfl) (by kernel_rfl) (by kernel_rfl) (strconv_FormatInt_ok (at_) (by omega) (by omega) w2 h4) ?_
  rintro _ w3 ⟨rfl, c3⟩
  have z5 := c3.size
  refine ops_nil ?_
  have h5 := h2.keep0 c3 (by omega)
  refine nx_any ⟨h5, trivial⟩ ?_
  refine any_cat (q_ := 10) (listed' := (bm 13 2047)) (a := [82, 101, 99, 101, 105, 118, 101, 100, 58, 32]) (b := Lib.itoa (at_)) panK_FB (by kernel_rfl) rfl (by kernel_rfl) (by kernel_rfl) (by kernel_rfl) (by kernel_rfl) (by kernel_rfl) (by kernel_rfl) (by first | omega | (simp only [List.length_append, List.length_cons, List.length_nil, List.length_take, List.length_drop, List.length_map]; omega)) ?_
  refine any_1 11 (bm 13 4095) (by kernel_rfl) rfl (by kernel_rfl) ?_
  refine ops_lit (e := 9) (sz := 1) [S [77, 73, 77, 69, 45, 86, 101, 114, 115, 105, 111, 110, 58, 32, 49, 46, 48], S ([67, 111, 110, 116, 101, 110, 116, 45, 84, 121, 112, 101, 58, 32, 109, 117, 108, 116, 105, 112, 97, 114, 116, 47, 109, 105, 120, 101, 100, 59, 32, 98, 111, 117, 110, 100, 97, 114, 121, 61] ++ n), S [], S ([45, 45] ++ n), S [67, 111, 110, 116, 101, 110, 116, 45, 84, 121, 112, 101, 58, 32, 116, 101, 120, 116, 47, 112, 108, 97, 105, 110], S [], S ([83, 101, 110, 100, 101, 114, 58, 32] ++ fr), S ([82, 101, 99, 101, 105, 118, 101, 100, 58, 32] ++ (Lib.itoa (at_)))] (by kernel_rfl) (by kernel_rfl) (by kernel_rfl) rfl (by decide) (fun v1 w4 h6 c4 z6 => ?_)
  have z7 := c4.size
  replace h6 : OwnS w4 (w3.heap.size) v1 [[77, 73, 77, 69, 45, 86, 101, 114, 115, 105, 111, 110, 58, 32, 49, 46, 48], [67, 111, 110, 116, 101, 110, 116, 45, 84, 121, 112, 101, 58, 32, 109, 117, 108, 116, 105, 112, 97, 114, 116, 47, 109, 105, 120, 101, 100, 59, 32, 98, 111, 117, 110, 100, 97, 114, 121, 61] ++ n, [], [45, 45] ++ n, [67, 111, 110, 116, 101, 110, 116, 45, 84, 121, 112, 101, 58, 32, 116, 101, 120, 116, 47, 112, 108, 97, 105, 110], [], [83, 101, 110, 100, 101, 114, 58, 32] ++ fr, [82, 101, 99, 101, 105, 118, 101, 100, 58, 32] ++ (Lib.itoa (at_))] := h6.1
  refine ops_nil ?_
  have h7 := h5.keep0 c4 (by omega)
  refine nx_any ⟨h7, trivial⟩ ?_
  refine any_takes [12] (fuel' := 0) (listed' := (bm 13 8191)) (l' := [(1, S n), (2, .pointer (some ⟨b1, 0, none⟩)), (4, S []), (5, v1)]) panK_FB (by kernel_rfl) (by kernel_rfl) (by kernel_rfl) ?_
  refine any_done (by kernel_rfl) ?_
  refine nx_seq (at_seq (at_seq (at_region ?_)))
  refine ops_run1 (l' := [(1, S n), (4, S []), (5, v1), (20, .pointer (some ⟨b1, 1, none⟩))]) (by kernel_rfl) ?_
  refine ops_loadB (i := 1) (v := tv) (by kernel_rfl) (by kernel_rfl) (by kernel_rfl) (by kernel_rfl) h7 (by kernel_rfl) ?_
  have h8 := ht.keep0 c1 (by omega)
  have h9 := h8.keep0 c2 (by omega)
  have h10 := h9.keep0 c3 (by omega)
  have h11 := h10.keep0 c4 (by omega)
  refine ops_len (e := 9) (by kernel_rfl) (by kernel_rfl) (by kernel_rfl) (by kernel_rfl) h11 ?_
  refine ops_run1 (l' := [(1, S n), (4, S []), (5, v1), (21, tv), (22, .int .i64 ((to.length : Int))), (23, .int .i64 0)]) (by kernel_rfl) ?_
  refine ops_nil (nx_seq (at_block ?_))
  refine at_loop (X := Value × Nat) (fun x_ => [(1, S n), (4, S []), (5, x_.1), (21, tv), (22, .int .i64 ((to.length : Int))), (23, .int .i64 ((x_.2 : Int)))]) (fun x_ W1 => Chg [] (w3.heap.size) w4 W1 ∧ OwnS W1 w3.heap.size x_.1 ([cMV, cCT ++ n, [], cDD ++ n, cTP, [], cSE ++ fr, cRE ++ Lib.itoa at_] ++ (to.take x_.2).map (cRP ++ ·)) ∧ (x_.2 ≤ to.length)) (fun x_ => to.length - x_.2) (v1, 0) (proj_sub [1, 4, 5, 21, 22, 23] (by kernel_rfl)) ⟨((Chg.refl [] w4).to (by omega) (by simp)), (ownS_cast h6 (by simp)), (show 0 ≤ to.length by first | omega | (simp only [List.length_append, List.length_cons, List.length_nil, List.length_take, List.length_drop, List.length_map]; omega))⟩ ?_
  rintro ⟨v1, k⟩ w5 ⟨h12, h13, h14⟩
  replace h12 : Chg [] (w3.heap.size) w4 w5 := h12
  replace h13 : OwnS w5 w3.heap.size v1 ([cMV, cCT ++ n, [], cDD ++ n, cTP, [], cSE ++ fr, cRE ++ Lib.itoa at_] ++ (to.take k).map (cRP ++ ·)) := h13
  replace h14 : (k ≤ to.length) := h14
  have z8 := h12.size
  refine at_seq (at_region ?_)
  refine ops_run1 (l' := [(1, S n), (4, S []), (5, v1), (21, tv), (22, .int .i64 ((to.length : Int))), (23, .int .i64 ((k : Int))), (24, .bool (decide (((k : Int) : Int) < ((to.length : Int) : Int))))]) (by kernel_rfl) ?_
  refine ops_nil (nx_seq (at_seq ?_))
  refine at_ifp (((k : Int) : Int) < ((to.length : Int) : Int)) (by kernel_rfl) (fun q1 => ?_) (fun q1 => ?_)
  refine at_skip (nx_seq (at_seq (at_block (at_seq (at_region ?_)))))
  have h15 := h11.keep0 h12 (by omega)
  refine ops_idx (e := 9) (i := (k : Int)) (kd := .i64) k (by kernel_rfl) (by kernel_rfl) (by kernel_rfl) (by kernel_rfl) (by kernel_rfl) (by kernel_rfl) h15 (by omega) (by first | omega | (simp only [List.length_append, List.length_cons, List.length_nil, List.length_take, List.length_drop, List.length_map]; omega)) (fun a1 h16 => ?_)
  have h17 := cell_sAt (l := to) (j := k) h16 (by omega)
  refine ops_load (by kernel_rfl) (by kernel_rfl) (by kernel_rfl) (by kernel_rfl) h17 ?_
  have hpl := hto (to.getD k []) (getD_mem (by omega))
  refine ops_run1 (l' := [(1, S n), (4, S []), (5, v1), (7, S (to.getD k [])), (21, tv), (22, .int .i64 ((to.length : Int))), (23, .int .i64 ((k : Int)))]) (by kernel_rfl) ?_
  refine ops_nil (nx_seq (at_region ?_))
  refine ops_run2 (l' := [(1, S n), (4, S []), (5, v1), (21, tv), (22, .int .i64 ((to.length : Int))), (23, .int .i64 ((k : Int))), (27, v1), (28, S (to.getD k []))]) (by kernel_rfl) ?_
  refine ops_cat (a := [82, 101, 99, 105, 112, 105, 101, 110, 116, 58, 32]) (b := to.getD k []) (by kernel_rfl) (by kernel_rfl) (by kernel_rfl) (by kernel_rfl) (by first | omega | (simp only [List.length_append, List.length_cons, List.length_nil, List.length_take, List.length_drop, List.length_map]; omega)) ?_
  refine ops_lit (e := 9) (sz := 1) [S ([82, 101, 99, 105, 112, 105, 101, 110, 116, 58, 32] ++ (to.getD k []))] (by kernel_rfl) (by kernel_rfl) (by kernel_rfl) rfl (by decide) (fun v2 w6 h18 c5 z9 => ?_)
  have z10 := c5.size
  replace h18 : OwnS w6 (w5.heap.size) v2 [[82, 101, 99, 105, 112, 105, 101, 110, 116, 58, 32] ++ (to.getD k [])] := h18.1
  have h19 := h13.keep c5 (by omega) (fun _ _ _ => by simp)
  refine ops_appendS (e := 9) (by_ := 16) (l1 := ([cMV, cCT ++ n, [], cDD ++ n, cTP, [], cSE ++ fr, cRE ++ Lib.itoa at_] ++ (to.take k).map (cRP ++ ·))) (l2 := [[82, 101, 99, 105, 112, 105, 101, 110, 116, 58, 32] ++ (to.getD k [])]) (by kernel_rfl) (by kernel_rfl) (by kernel_rfl) (by kernel_rfl) (by kernel_rfl) (by kernel_rfl) (by kernel_rfl) h19 h18.sl (by first | omega | (simp only [List.length_append, List.length_cons, List.length_nil, List.length_take, List.length_drop, List.length_map]; omega)) (by first | omega | (simp only [List.length_append, List.length_cons, List.length_nil, List.length_take, List.length_drop, List.length_map]; omega)) (fun v3 w7 h20 c6 c7 => ?_)
  have z11 := c6.size
  refine ops_run1 (l' := [(1, S n), (4, S []), (5, v3), (21, tv), (22, .int .i64 ((to.length : Int))), (23, .int .i64 ((k : Int)))]) (by kernel_rfl) ?_
  refine ops_nil (nx_blk (nx_seq (at_region ?_)))
  refine ops_add (a := (k : Int)) (b := 1) (kd := .i64) (by kernel_rfl) (by kernel_rfl) (by kernel_rfl) (by kernel_rfl) (show (-9223372036854775808 : Int) ≤ ((k : Int)) + 1 by omega) (show ((k : Int)) + 1 ≤ (9223372036854775807 : Int) by omega) ?_
  refine ops_run1 (l' := [(1, S n), (4, S []), (5, v3), (21, tv), (22, .int .i64 ((to.length : Int))), (23, .int .i64 (((k : Int)) + 1))]) (by kernel_rfl) ?_
  refine ops_nil ?_
  have e2 : (((k : Int)) + 1 : Int) = (((k + 1) : Nat) : Int) := by omega
  refine nx_round (v3, k + 1) (proj_subE (l1 := [(1, S n), (4, S []), (5, v3), (21, tv), (22, .int .i64 ((to.length : Int))), (23, .int .i64 (((k : Int)) + 1))]) (l2 := [(1, S n), (4, S []), (5, v3), (21, tv), (22, .int .i64 ((to.length : Int))), (23, .int .i64 ((((k + 1) : Nat) : Int)))]) (by kernel_rfl) (by simp only [e2]) (by kernel_rfl)) ⟨(((((Chg.refl [] w4).to (B' := w3.heap.size) (r' := []) (by omega) (by simp)).step0 h12 (by omega)).step0 c5 (by omega)).step0 c6 (by omega)), (ownS_cast h20 (map_snoc [cMV, cCT ++ n, [], cDD ++ n, cTP, [], cSE ++ fr, cRE ++ Lib.itoa at_] (cRP ++ ·) to [] (by omega))), (show (k + 1) ≤ to.length by first | omega | (simp only [List.length_append, List.length_cons, List.length_nil, List.length_take, List.length_drop, List.length_map]; omega))⟩ (show to.length - (k + 1) < to.length - k by omega)
  refine at_exit (ex_seq (ex_inv (ex_here (nx_seq (at_seq (at_region ?_))))))
  refine ops_run2 (l' := [(4, S []), (33, v1), (34, S n)]) (by kernel_rfl) ?_
  refine ops_cat (a := [45, 45]) (b := n) (by kernel_rfl) (by kernel_rfl) (by kernel_rfl) (by kernel_rfl) (by first | omega | (simp only [List.length_append, List.length_cons, List.length_nil, List.length_take, List.length_drop, List.length_map]; omega)) ?_
  refine ops_lit (e := 9) (sz := 1) [S ([45, 45] ++ n), S [67, 111, 110, 116, 101, 110, 116, 45, 84, 121, 112, 101, 58, 32, 109, 101, 115, 115, 97, 103, 101, 47, 114, 102, 99, 56, 50, 50], S []] (by kernel_rfl) (by kernel_rfl) (by kernel_rfl) rfl (by decide) (fun v4 w8 h21 c8 z12 => ?_)
  have z13 := c8.size
  replace h21 : OwnS w8 (w5.heap.size) v4 [[45, 45] ++ n, [67, 111, 110, 116, 101, 110, 116, 45, 84, 121, 112, 101, 58, 32, 109, 101, 115, 115, 97, 103, 101, 47, 114, 102, 99, 56, 50, 50], []] := h21.1
  have h22 := h13.keep c8 (by omega) (fun _ _ _ => by simp)
  refine ops_appendS (e := 9) (by_ := 16) (l1 := ([cMV, cCT ++ n, [], cDD ++ n, cTP, [], cSE ++ fr, cRE ++ Lib.itoa at_] ++ (to.take k).map (cRP ++ ·))) (l2 := [[45, 45] ++ n, [67, 111, 110, 116, 101, 110, 116, 45, 84, 121, 112, 101, 58, 32, 109, 101, 115, 115, 97, 103, 101, 47, 114, 102, 99, 56, 50, 50], []]) (by kernel_rfl) (by kernel_rfl) (by kernel_rfl) (by kernel_rfl) (by kernel_rfl) (by kernel_rfl) (by kernel_rfl) h22 h21.sl (by first | omega | (simp only [List.length_append, List.length_cons, List.length_nil, List.length_take, List.length_drop, List.length_map]; omega)) (by first | omega | (simp only [List.length_append, List.length_cons, List.length_nil, List.length_take, List.length_drop, List.length_map]; omega)) (fun v5 w9 h23 c9 c10 => ?_)
  have z14 := c9.size
  refine ops_callr (by kernel_rfl) (by kernel_rfl) (by kernel_rfl) (lines_ok h23.sl (by rw [List.take_of_length_le (by omega : to.length ≤ k)]; exact Nat.le_trans hab (by omega))) ?_
  rintro _ w10 ⟨rfl, c11⟩
  have z15 := c11.size
  refine ops_run1 (l' := [(4, S (linesP (([cMV, cCT ++ n, [], cDD ++ n, cTP, [], cSE ++ fr, cRE ++ Lib.itoa at_] ++ (to.take k).map (cRP ++ ·)) ++ [[45, 45] ++ n, [67, 111, 110, 116, 101, 110, 116, 45, 84, 121, 112, 101, 58, 32, 109, 101, 115, 115, 97, 103, 101, 47, 114, 102, 99, 56, 50, 50], []])))]) (by kernel_rfl) ?_
  refine ops_nil (nx_seq ?_)
  refine at_ret (rs := [.tmp 4]) (vs := [S (linesP (([cMV, cCT ++ n, [], cDD ++ n, cTP, [], cSE ++ fr, cRE ++ Lib.itoa at_] ++ (to.take k).map (cRP ++ ·)) ++ [[45, 45] ++ n, [67, 111, 110, 116, 101, 110, 116, 45, 84, 121, 112, 101, 58, 32, 109, 101, 115, 115, 97, 103, 101, 47, 114, 102, 99, 56, 50, 50], []]))]) rfl (by kernel_rfl) ?_
  rw [List.take_of_length_le (by omega : to.length ≤ k)]
  exact ⟨_, rfl, rfl, (((((((((Chg.refl [] w).step0 c1 (by omega)).step0 c2 (by omega)).step0 c3 (by omega)).step0 c4 (by omega)).step0 h12 (by omega)).step0 c8 (by omega)).step0 c9 (by omega)).step0 c11 (by omega))⟩
theorem in_ok (b s : Bytes) (hne : s ≠ []) (hb : b.length ≤ 1000000000000) (hs : s.length ≤ 1000000000000) (w : World) : Pu Tryd.prog 103 #[S b, S s] w (.int .i64 (Lib.index b s)) := by
  have hpos := List.length_pos_iff.2 hne
  refine enter (n := 25) (args := [S b, S s]) Tryd.func103 rfl rfl (Nat.le_of_ble_eq_true (by kernel_rfl)) ?_
  refine at_seq (at_region ?_)
  refine ops_run1 (l' := [(0, S b), (1, S s), (4, .int .i64 0)]) (by kernel_rfl) ?_
  refine ops_nil (nx_seq (at_seq (at_seq (at_region ?_))))
  refine ops_run1 (l' := [(0, S b), (1, S s), (4, .int .i64 0), (5, .int .i64 0)]) (by kernel_rfl) ?_
  refine ops_nil (nx_seq (at_block ?_))
  refine at_loop (X := Nat) (fun x_ => [(0, S b), (1, S s), (4, .int .i64 0), (5, .int .i64 ((x_ : Int)))]) (fun x_ W1 => Chg [] (w.heap.size) w W1 ∧ (x_ ≤ b.length) ∧ (Lib.NoOcc b s x_)) (fun x_ => b.length - x_) 0 (proj_sub [0, 1, 4, 5] (by kernel_rfl)) ⟨(Chg.refl [] w), (show 0 ≤ b.length by first | omega | (simp only [List.length_append, List.length_cons, List.length_nil, List.length_take, List.length_drop, List.length_map]; omega)), (show Lib.NoOcc b s 0 by exact Lib.NoOcc.zero b s)⟩ ?_
  rintro i w1 ⟨h1, h2, h3⟩
  replace h1 : Chg [] (w.heap.size) w w1 := h1
  replace h2 : (i ≤ b.length) := h2
  replace h3 : (Lib.NoOcc b s i) := h3
  have z1 := h1.size
  have hall := h3
  refine at_seq (at_seq (at_region ?_))
  refine ops_run3 (l' := [(0, S b), (1, S s), (4, .int .i64 0), (5, .int .i64 ((i : Int))), (6, .int .i64 ((i : Int))), (8, .int .i64 ((s.length : Int)))]) (by kernel_rfl) ?_
  refine ops_add (a := (i : Int)) (b := (s.length : Int)) (kd := .i64) (by kernel_rfl) (by kernel_rfl) (by kernel_rfl) (by kernel_rfl) (show (-9223372036854775808 : Int) ≤ ((i : Int)) + ((s.length : Int)) by omega) (show ((i : Int)) + ((s.length : Int)) ≤ (9223372036854775807 : Int) by omega) ?_
  refine ops_run3 (l' := [(0, S b), (1, S s), (4, .int .i64 0), (5, .int .i64 ((i : Int))), (12, .bool (decide ((((i : Int)) + ((s.length : Int)) : Int) ≤ ((b.length : Int) : Int))))]) (by kernel_rfl) ?_
  refine ops_nil (nx_seq ?_)
  refine at_ifp ((((i : Int)) + ((s.length : Int)) : Int) ≤ ((b.length : Int) : Int)) (by kernel_rfl) (fun q1 => ?_) (fun q1 => ?_)
  refine at_skip (nx_seq (at_seq (at_block (at_seq (at_region ?_)))))
  refine ops_run5 (l' := [(0, S b), (1, S s), (4, .int .i64 0), (5, .int .i64 ((i : Int))), (15, S b), (16, .int .i64 ((i : Int))), (17, .int .i64 ((i : Int))), (19, .int .i64 ((s.length : Int)))]) (by kernel_rfl) ?_
  refine ops_add (a := (i : Int)) (b := (s.length : Int)) (kd := .i64) (by kernel_rfl) (by kernel_rfl) (by kernel_rfl) (by kernel_rfl) (show (-9223372036854775808 : Int) ≤ ((i : Int)) + ((s.length : Int)) by omega) (show ((i : Int)) + ((s.length : Int)) ≤ (9223372036854775807 : Int) by omega) ?_
  refine ops_partS (s := b) (i := (i : Int)) (kd := .i64) (i' := ((i : Int)) + ((s.length : Int))) (kd' := .i64) i ((i) + (s.length)) (by kernel_rfl) (by kernel_rfl) (by kernel_rfl) (by kernel_rfl) (by kernel_rfl) (by kernel_rfl) (by first | omega | (simp only [List.length_append, List.length_cons, List.length_nil, List.length_take, List.length_drop, List.length_map]; omega)) (by first | omega | (simp only [List.length_append, List.length_cons, List.length_nil, List.length_take, List.length_drop, List.length_map]; omega)) (by first | omega | (simp only [List.length_append, List.length_cons, List.length_nil, List.length_take, List.length_drop, List.length_map]; omega)) (by first | omega | (simp only [List.length_append, List.length_cons, List.length_nil, List.length_take, List.length_drop, List.length_map]; omega)) ?_
  refine ops_run1 (l' := [(0, S b), (1, S s), (4, .int .i64 0), (5, .int .i64 ((i : Int))), (21, S ((b.drop i).take (((i) + (s.length)) - i))), (22, S s)]) (by kernel_rfl) ?_
  refine ops_eqS (a := (b.drop i).take (((i) + (s.length)) - i)) (b := s) (by kernel_rfl) (by kernel_rfl) (by kernel_rfl) (by kernel_rfl) ?_
  refine ops_nil (nx_seq ?_)
  refine at_ifp (((b.drop i).take (((i) + (s.length)) - i) : Bytes) = s) (by kernel_rfl) (fun q2 => ?_) (fun q2 => ?_)
  have hhit := q2
  refine at_seq (at_region ?_)
  refine ops_run2 (l' := [(0, S b), (1, S s), (4, .int .i64 ((i : Int))), (5, .int .i64 ((i : Int)))]) (by kernel_rfl) ?_
  refine ops_nil (nx_seq ?_)
  refine at_ret (rs := [.tmp 4]) (vs := [.int .i64 ((i : Int))]) rfl (by kernel_rfl) ?_
  exact ⟨_, rfl, (congrArg (Value.int .i64) (show ((i : Int) : Int) = Lib.index b s from (Lib.index_first (i := i) (by omega) (by rw [Lib.occAt_iff_take b s i (by omega)]; rw [show i + s.length - i = s.length by omega] at hhit; simpa using hhit) hall).symm)), ((Chg.refl [] w).step0 h1 (by omega))⟩
  have hmiss := q2
  refine at_skip (nx_blk (nx_seq (at_region ?_)))
  refine ops_run1 (l' := [(0, S b), (1, S s), (4, .int .i64 0), (5, .int .i64 ((i : Int))), (13, .int .i64 ((i : Int)))]) (by kernel_rfl) ?_
  refine ops_add (a := (i : Int)) (b := 1) (kd := .i64) (by kernel_rfl) (by kernel_rfl) (by kernel_rfl) (by kernel_rfl) (show (-9223372036854775808 : Int) ≤ ((i : Int)) + 1 by omega) (show ((i : Int)) + 1 ≤ (9223372036854775807 : Int) by omega) ?_
  refine ops_run1 (l' := [(0, S b), (1, S s), (4, .int .i64 0), (5, .int .i64 (((i : Int)) + 1))]) (by kernel_rfl) ?_
  refine ops_nil ?_
  refine nx_round ((i) + 1) (proj_sub [0, 1, 4, 5] (by kernel_rfl)) ⟨((Chg.refl [] w).step0 h1 (by omega)), (show ((i) + 1) ≤ b.length by first | omega | (simp only [List.length_append, List.length_cons, List.length_nil, List.length_take, List.length_drop, List.length_map]; omega)), (show Lib.NoOcc b s ((i) + 1) by exact fun j hj => if e : j = i then (by rw [e, Lib.occAt_iff_take b s i (by omega)]; rw [show i + s.length - i = s.length by omega] at hmiss; simpa using hmiss) else hall j (by omega))⟩ (show b.length - ((i) + 1) < b.length - i by omega)
  refine at_exit (ex_seq (ex_inv (ex_here (nx_seq (at_seq (at_region ?_))))))
  refine ops_run1 (l' := [(4, .int .i64 (-1))]) (by kernel_rfl) ?_
  refine ops_nil (nx_seq ?_)
  refine at_ret (rs := [.tmp 4]) (vs := [.int .i64 (-1)]) rfl (by kernel_rfl) ?_
  exact ⟨_, rfl, (congrArg (Value.int .i64) (show (-1 : Int) = Lib.index b s from (Lib.index_past hne hall (by omega)).symm)), ((Chg.refl [] w).step0 h1 (by omega))⟩
theorem boundary_ok {b : Bytes} {w : World} {lo hi : Nat} {v : Value} (hb : Bs w lo hi v b) (hs : b.length ≤ 1000000) (hg : Gl w) : Rt Tryd.prog 45 #[v] w fun u w' => ∃ k, u = S (jn k) ∧ IsBnd b k ∧ k < 10000000 ∧ Chg [] w.heap.size w w' := by
  have hgs := hg.size
  have hhi := hb.hi_le
  obtain ⟨K, hK, hK2⟩ := bnd_ex b hs
  have hK3 := hK2.1
  refine enter (n := 17) (args := [v]) Tryd.func45 rfl rfl (Nat.le_of_ble_eq_true (by kernel_rfl)) ?_
  refine at_seq (at_region ?_)
  refine ops_run1 (l' := [(0, v), (2, S [])]) (by kernel_rfl) ?_
  refine ops_nil (nx_seq (at_seq (at_region ?_)))
  refine ops_run1 (l' := [(0, v), (2, S []), (3, .int .i64 0)]) (by kernel_rfl) ?_
  refine ops_nil (nx_seq (at_block ?_))
  refine at_loop (X := Nat) (fun x_ => [(0, v), (2, S []), (3, .int .i64 ((x_ : Int)))]) (fun x_ W1 => Chg [] (w.heap.size) w W1 ∧ (∀ j, j < x_ → 0 ≤ Lib.index b (dj j)) ∧ (x_ ≤ K)) (fun x_ => K - x_) 0 (proj_sub [0, 2, 3] (by kernel_rfl)) ⟨(Chg.refl [] w), (show ∀ j, j < 0 → 0 ≤ Lib.index b (dj j) by intro j hj; omega), (show 0 ≤ K by first | omega | (simp only [List.length_append, List.length_cons, List.length_nil, List.length_take, List.length_drop, List.length_map]; omega))⟩ ?_
  rintro n w1 ⟨h1, h2, h3⟩
  replace h1 : Chg [] (w.heap.size) w w1 := h1
  replace h2 : (∀ j, j < n → 0 ≤ Lib.index b (dj j)) := h2
  replace h3 : (n ≤ K) := h3
  have z1 := h1.size
  have hall := h2
  have hil := itoa_len ((n : Int) : Int) (by omega) (by omega)
  have hne : 0 ≤ Lib.index b (dj n) → n + 1 ≤ K := fun h => Nat.lt_of_le_of_ne (by omega) (fun e => by rw [e] at h; omega)
  refine at_seq (at_block (at_seq (at_region ?_)))
  refine ops_run1 (l' := [(0, v), (2, S []), (3, .int .i64 ((n : Int))), (7, .int .i64 ((n : Int)))]) (by kernel_rfl) ?_
  have h4 := hg.keep0 h1 (by omega)
  refine ops_callr (by kernel_rfl) (by kernel_rfl) (by kernel_rfl) (strconv_Itoa_ok ((n : Int)) (by omega) (by omega) w1 h4) ?_
  rintro _ w2 ⟨rfl, c1⟩
  have z2 := c1.size
  refine ops_cat (a := [106, 111, 117, 114, 110, 97, 108, 45]) (b := Lib.itoa ((n : Int))) (by kernel_rfl) (by kernel_rfl) (by kernel_rfl) (by kernel_rfl) (by first | omega | (simp only [List.length_append, List.length_cons, List.length_nil, List.length_take, List.length_drop, List.length_map]; omega)) ?_
  refine ops_run1 (l' := [(0, v), (2, S []), (3, .int .i64 ((n : Int))), (4, S ([106, 111, 117, 114, 110, 97, 108, 45] ++ (Lib.itoa ((n : Int)))))]) (by kernel_rfl) ?_
  refine ops_nil (nx_seq (at_seq (at_region ?_)))
  refine ops_run2 (l' := [(0, v), (2, S []), (3, .int .i64 ((n : Int))), (4, S ([106, 111, 117, 114, 110, 97, 108, 45] ++ (Lib.itoa ((n : Int))))), (10, v), (11, S ([106, 111, 117, 114, 110, 97, 108, 45] ++ (Lib.itoa ((n : Int)))))]) (by kernel_rfl) ?_
  refine ops_cat (a := [45, 45]) (b := [106, 111, 117, 114, 110, 97, 108, 45] ++ (Lib.itoa ((n : Int)))) (by kernel_rfl) (by kernel_rfl) (by kernel_rfl) (by kernel_rfl) (by first | omega | (simp only [List.length_append, List.length_cons, List.length_nil, List.length_take, List.length_drop, List.length_map]; omega)) ?_
  refine ops_toB (b := [45, 45] ++ ([106, 111, 117, 114, 110, 97, 108, 45] ++ (Lib.itoa ((n : Int))))) (by kernel_rfl) (by kernel_rfl) (by kernel_rfl) (by kernel_rfl) (by kernel_rfl) (by first | omega | (simp only [List.length_append, List.length_cons, List.length_nil, List.length_take, List.length_drop, List.length_map]; omega)) (fun v1 w3 h5 c2 z3 => ?_)
  have z4 := c2.size
  have h6 := hb.keep0 h1 (by omega)
  have h7 := h6.keep0 c1 (by omega)
  have h8 := h7.keep0 c2 (by omega)
  have h9 := h4.keep0 c1 (by omega)
  have h10 := h9.keep0 c2 (by omega)
  refine ops_callr (by kernel_rfl) (by kernel_rfl) (by kernel_rfl) (bytes_Contains_ok h8 h5.sl (by first | omega | (simp only [List.length_append, List.length_cons, List.length_nil, List.length_take, List.length_drop, List.length_map]; omega)) (by first | omega | (simp only [List.length_append, List.length_cons, List.length_nil, List.length_take, List.length_drop, List.length_map]; omega)) h10) ?_
  rintro _ w4 ⟨rfl, c3⟩
  have z5 := c3.size
  refine ops_run1 (l' := [(0, v), (2, S []), (3, .int .i64 ((n : Int))), (4, S ([106, 111, 117, 114, 110, 97, 108, 45] ++ (Lib.itoa ((n : Int))))), (15, .bool (!(decide (0 ≤ Lib.index b ([45, 45] ++ ([106, 111, 117, 114, 110, 97, 108, 45] ++ (Lib.itoa ((n : Int)))))))))]) (by kernel_rfl) ?_
  refine ops_nil (nx_seq ?_)
  refine at_ifn (0 ≤ Lib.index b ([45, 45] ++ ([106, 111, 117, 114, 110, 97, 108, 45] ++ (Lib.itoa ((n : Int)))))) (by kernel_rfl) (fun q1 => ?_) (fun q1 => ?_)
  have hmiss : Lib.index b (dj n) < 0 := Int.not_le.1 q1
  refine at_seq (at_region ?_)
  refine ops_run2 (l' := [(0, v), (2, S ([106, 111, 117, 114, 110, 97, 108, 45] ++ (Lib.itoa ((n : Int))))), (3, .int .i64 ((n : Int)))]) (by kernel_rfl) ?_
  refine ops_nil (nx_seq ?_)
  refine at_ret (rs := [.tmp 2]) (vs := [S ([106, 111, 117, 114, 110, 97, 108, 45] ++ (Lib.itoa ((n : Int))))]) rfl (by kernel_rfl) ?_
  exact ⟨_, rfl, n, rfl, ⟨hmiss, hall⟩, by omega, (((((Chg.refl [] w).step0 h1 (by omega)).step0 c1 (by omega)).step0 c2 (by omega)).step0 c3 (by omega))⟩
  have hhit : 0 ≤ Lib.index b (dj n) := q1
  refine at_skip (nx_blk (nx_seq (at_region ?_)))
  refine ops_run1 (l' := [(0, v), (2, S []), (3, .int .i64 ((n : Int))), (5, .int .i64 ((n : Int)))]) (by kernel_rfl) ?_
  refine ops_add (a := (n : Int)) (b := 1) (kd := .i64) (by kernel_rfl) (by kernel_rfl) (by kernel_rfl) (by kernel_rfl) (show (-9223372036854775808 : Int) ≤ ((n : Int)) + 1 by omega) (show ((n : Int)) + 1 ≤ (9223372036854775807 : Int) by omega) ?_
  refine ops_run1 (l' := [(0, v), (2, S []), (3, .int .i64 (((n : Int)) + 1))]) (by kernel_rfl) ?_
  refine ops_nil ?_
  refine nx_round ((n) + 1) (proj_sub [0, 2, 3] (by kernel_rfl)) ⟨(((((Chg.refl [] w).step0 h1 (by omega)).step0 c1 (by omega)).step0 c2 (by omega)).step0 c3 (by omega)), (show ∀ j, j < ((n) + 1) → 0 ≤ Lib.index b (dj j) by exact fun j hj => if e : j = n then (by rw [e]; exact hhit) else hall j (by omega)), (show ((n) + 1) ≤ K by exact hne hhit)⟩ (show K - ((n) + 1) < K - n by (have := hne hhit; omega))
theorem rBoundary_ok {b : Bytes} {w : World} {lo hi : Nat} {v : Value} (hb : Bs w lo hi v b) (hs : b.length ≤ 1000000) (hg : Gl w) : Rt Tryd.prog 105 #[v] w fun u w' => ∃ k, u = S (jn k) ∧ IsBnd b k ∧ k < 10000000 ∧ Chg [] w.heap.size w w' := by
  have hgs := hg.size
  have hhi := hb.hi_le
  obtain ⟨K, hK, hK2⟩ := bnd_ex b hs
  have hK3 := hK2.1
  refine enter (n := 17) (args := [v]) Tryd.func105 rfl rfl (Nat.le_of_ble_eq_true (by kernel_rfl)) ?_
  refine at_seq (at_region ?_)
  refine ops_run1 (l' := [(0, v), (2, S [])]) (by kernel_rfl) ?_
  refine ops_nil (nx_seq (at_seq (at_region ?_)))
  refine ops_run1 (l' := [(0, v), (2, S []), (3, .int .i64 0)]) (by kernel_rfl) ?_
  refine ops_nil (nx_seq (at_block ?_))
  refine at_loop (X := Nat) (fun x_ => [(0, v), (2, S []), (3, .int .i64 ((x_ : Int)))]) (fun x_ W1 => Chg [] (w.heap.size) w W1 ∧ (∀ j, j < x_ → 0 ≤ Lib.index b (dj j)) ∧ (x_ ≤ K)) (fun x_ => K - x_) 0 (proj_sub [0, 2, 3] (by kernel_rfl)) ⟨(Chg.refl [] w), (show ∀ j, j < 0 → 0 ≤ Lib.index b (dj j) by intro j hj; omega), (show 0 ≤ K by first | omega | (simp only [List.length_append, List.length_cons, List.length_nil, List.length_take, List.length_drop, List.length_map]; omega))⟩ ?_
  rintro n w1 ⟨h1, h2, h3⟩
  replace h1 : Chg [] (w.heap.size) w w1 := h1
  replace h2 : (∀ j, j < n → 0 ≤ Lib.index b (dj j)) := h2
  replace h3 : (n ≤ K) := h3
  have z1 := h1.size
  have hall := h2
  have hil := itoa_len ((n : Int) : Int) (by omega) (by omega)
  have hne : 0 ≤ Lib.index b (dj n) → n + 1 ≤ K := fun h => Nat.lt_of_le_of_ne (by omega) (fun e => by rw [e] at h; omega)
  refine at_seq (at_block (at_seq (at_region ?_)))
  refine ops_run1 (l' := [(0, v), (2, S []), (3, .int .i64 ((n : Int))), (7, .int .i64 ((n : Int)))]) (by kernel_rfl) ?_
  have h4 := hg.keep0 h1 (by omega)
  refine ops_callr (by kernel_rfl) (by kernel_rfl) (by kernel_rfl) (strconv_Itoa_ok ((n : Int)) (by omega) (by omega) w1 h4) ?_
  rintro _ w2 ⟨rfl, c1⟩
  have z2 := c1.size
  refine ops_cat (a := [106, 111, 117, 114, 110, 97, 108, 45]) (b := Lib.itoa ((n : Int))) (by kernel_rfl) (by kernel_rfl) (by kernel_rfl) (by kernel_rfl) (by first | omega | (simp only [List.length_append, List.length_cons, List.length_nil, List.length_take, List.length_drop, List.length_map]; omega)) ?_
  refine ops_run1 (l' := [(0, v), (2, S []), (3, .int .i64 ((n : Int))), (4, S ([106, 111, 117, 114, 110, 97, 108, 45] ++ (Lib.itoa ((n : Int)))))]) (by kernel_rfl) ?_
  refine ops_nil (nx_seq (at_seq (at_region ?_)))
  refine ops_run1 (l' := [(0, v), (2, S []), (3, .int .i64 ((n : Int))), (4, S ([106, 111, 117, 114, 110, 97, 108, 45] ++ (Lib.itoa ((n : Int))))), (10, v)]) (by kernel_rfl) ?_
  have h5 := hb.keep0 h1 (by omega)
  have h6 := h5.keep0 c1 (by omega)
  refine ops_toS (b := b) (by kernel_rfl) (by kernel_rfl) (by kernel_rfl) (by kernel_rfl) (by kernel_rfl) h6 ?_
  refine ops_run1 (l' := [(0, v), (2, S []), (3, .int .i64 ((n : Int))), (4, S ([106, 111, 117, 114, 110, 97, 108, 45] ++ (Lib.itoa ((n : Int))))), (11, S b), (12, S ([106, 111, 117, 114, 110, 97, 108, 45] ++ (Lib.itoa ((n : Int)))))]) (by kernel_rfl) ?_
  refine ops_cat (a := [45, 45]) (b := [106, 111, 117, 114, 110, 97, 108, 45] ++ (Lib.itoa ((n : Int)))) (by kernel_rfl) (by kernel_rfl) (by kernel_rfl) (by kernel_rfl) (by first | omega | (simp only [List.length_append, List.length_cons, List.length_nil, List.length_take, List.length_drop, List.length_map]; omega)) ?_
  refine ops_callr (by kernel_rfl) (by kernel_rfl) (by kernel_rfl) (in_ok b ([45, 45] ++ ([106, 111, 117, 114, 110, 97, 108, 45] ++ (Lib.itoa ((n : Int))))) (by simp) (by first | omega | (simp only [List.length_append, List.length_cons, List.length_nil, List.length_take, List.length_drop, List.length_map]; omega)) (by first | omega | (simp only [List.length_append, List.length_cons, List.length_nil, List.length_take, List.length_drop, List.length_map]; omega)) w2) ?_
  rintro _ w3 ⟨rfl, c2⟩
  have z3 := c2.size
  refine ops_run1 (l' := [(0, v), (2, S []), (3, .int .i64 ((n : Int))), (4, S ([106, 111, 117, 114, 110, 97, 108, 45] ++ (Lib.itoa ((n : Int))))), (15, .bool (decide ((Lib.index b ([45, 45] ++ ([106, 111, 117, 114, 110, 97, 108, 45] ++ (Lib.itoa ((n : Int))))) : Int) < (0 : Int))))]) (by kernel_rfl) ?_
  refine ops_nil (nx_seq ?_)
  refine at_ifp ((Lib.index b ([45, 45] ++ ([106, 111, 117, 114, 110, 97, 108, 45] ++ (Lib.itoa ((n : Int))))) : Int) < (0 : Int)) (by kernel_rfl) (fun q1 => ?_) (fun q1 => ?_)
  have hmiss : Lib.index b (dj n) < 0 := q1
  refine at_seq (at_region ?_)
  refine ops_run2 (l' := [(0, v), (2, S ([106, 111, 117, 114, 110, 97, 108, 45] ++ (Lib.itoa ((n : Int))))), (3, .int .i64 ((n : Int)))]) (by kernel_rfl) ?_
  refine ops_nil (nx_seq ?_)
  refine at_ret (rs := [.tmp 2]) (vs := [S ([106, 111, 117, 114, 110, 97, 108, 45] ++ (Lib.itoa ((n : Int))))]) rfl (by kernel_rfl) ?_
  exact ⟨_, rfl, n, rfl, ⟨hmiss, hall⟩, by omega, ((((Chg.refl [] w).step0 h1 (by omega)).step0 c1 (by omega)).step0 c2 (by omega))⟩
  have hhit : 0 ≤ Lib.index b (dj n) := Int.not_lt.1 q1
  refine at_skip (nx_blk (nx_seq (at_region ?_)))
  refine ops_run1 (l' := [(0, v), (2, S []), (3, .int .i64 ((n : Int))), (5, .int .i64 ((n : Int)))]) (by kernel_rfl) ?_
  refine ops_add (a := (n : Int)) (b := 1) (kd := .i64) (by kernel_rfl) (by kernel_rfl) (by kernel_rfl) (by kernel_rfl) (show (-9223372036854775808 : Int) ≤ ((n : Int)) + 1 by omega) (show ((n : Int)) + 1 ≤ (9223372036854775807 : Int) by omega) ?_
  refine ops_run1 (l' := [(0, v), (2, S []), (3, .int .i64 (((n : Int)) + 1))]) (by kernel_rfl) ?_
  refine ops_nil ?_
  refine nx_round ((n) + 1) (proj_sub [0, 2, 3] (by kernel_rfl)) ⟨((((Chg.refl [] w).step0 h1 (by omega)).step0 c1 (by omega)).step0 c2 (by omega)), (show ∀ j, j < ((n) + 1) → 0 ≤ Lib.index b (dj j) by exact fun j hj => if e : j = n then (by rw [e]; exact hhit) else hall j (by omega)), (show ((n) + 1) ≤ K by exact hne hhit)⟩ (show K - ((n) + 1) < K - n by (have := hne hhit; omega))
theorem head_ok (fr : Bytes) (to : List Bytes) (at_ : Int) (n : Bytes) {w : World} {lo hi : Nat} {tv : Value} (ht : Ss w lo hi tv to) (hfr : fr.length ≤ 1000000) (hto : ∀ s, s ∈ to → s.length ≤ 1000000) (htl : to.length ≤ 110) (ha0 : -9223372036854775808 ≤ at_) (ha1 : at_ ≤ 9223372036854775807) (hn : n.length ≤ 1000000) (hg : Gl w) : Pu Tryd.prog 57 #[.agg #[S fr, tv, .int .i64 at_], S n] w (S (linesP (aheadL fr to at_ n))) := by
  have hgs := hg.size
  have hil := itoa_len at_ ha0 ha1
  have hhi := ht.hi_le
  refine enter (n := 43) (args := [.agg #[S fr, tv, .int .i64 at_], S n]) Tryd.func57 rfl rfl (Nat.le_of_ble_eq_true (by kernel_rfl)) ?_
  refine at_seq (at_region ?_)
  refine ops_box (cs := [S fr, tv, .int .i64 at_]) (by kernel_rfl) (by kernel_rfl) (by kernel_rfl) (fun b1 w1 e1 h1 c1 z1 => ?_)
  have z2 := c1.size
  refine ops_run1 (l' := [(1, S n), (2, .pointer (some ⟨b1, 0, none⟩)), (4, S [])]) (by kernel_rfl) ?_
  refine ops_nil (nx_seq (at_seq (at_region ?_)))
  refine ops_run1 (l' := [(1, S n), (2, .pointer (some ⟨b1, 0, none⟩)), (4, S []), (8, S n)]) (by kernel_rfl) ?_
  refine ops_cat (a := [77, 73, 77, 69, 45, 86, 101, 114, 115, 105, 111, 110, 58, 32, 49, 46, 48, 13, 10, 67, 111, 110, 116, 101, 110, 116, 45, 84, 121, 112, 101, 58, 32, 109, 117, 108, 116, 105, 112, 97, 114, 116, 47, 109, 105, 120, 101, 100, 59, 32, 98, 111, 117, 110, 100, 97, 114, 121, 61]) (b := n) (by kernel_rfl) (by kernel_rfl) (by kernel_rfl) (by kernel_rfl) (by first | omega | (simp only [List.length_append, List.length_cons, List.length_nil, List.length_take, List.length_drop, List.length_map]; omega)) ?_
  refine ops_cat (a := [77, 73, 77, 69, 45, 86, 101, 114, 115, 105, 111, 110, 58, 32, 49, 46, 48, 13, 10, 67, 111, 110, 116, 101, 110, 116, 45, 84, 121, 112, 101, 58, 32, 109, 117, 108, 116, 105, 112, 97, 114, 116, 47, 109, 105, 120, 101, 100, 59, 32, 98, 111, 117, 110, 100, 97, 114, 121, 61] ++ n) (b := [13, 10, 13, 10, 45, 45]) (by kernel_rfl) (by kernel_rfl) (by kernel_rfl) (by kernel_rfl) (by first | omega | (simp only [List.length_append, List.length_cons, List.length_nil, List.length_take, List.length_drop, List.length_map]; omega)) ?_
  refine ops_run1 (l' := [(1, S n), (2, .pointer (some ⟨b1, 0, none⟩)), (4, S []), (10, S (([77, 73, 77, 69, 45, 86, 101, 114, 115, 105, 111, 110, 58, 32, 49, 46, 48, 13, 10, 67, 111, 110, 116, 101, 110, 116, 45, 84, 121, 112, 101, 58, 32, 109, 117, 108, 116, 105, 112, 97, 114, 116, 47, 109, 105, 120, 101, 100, 59, 32, 98, 111, 117, 110, 100, 97, 114, 121, 61] ++ n) ++ [13, 10, 13, 10, 45, 45])), (11, S n)]) (by kernel_rfl) ?_
  refine ops_cat (a := ([77, 73, 77, 69, 45, 86, 101, 114, 115, 105, 111, 110, 58, 32, 49, 46, 48, 13, 10, 67, 111, 110, 116, 101, 110, 116, 45, 84, 121, 112, 101, 58, 32, 109, 117, 108, 116, 105, 112, 97, 114, 116, 47, 109, 105, 120, 101, 100, 59, 32, 98, 111, 117, 110, 100, 97, 114, 121, 61] ++ n) ++ [13, 10, 13, 10, 45, 45]) (b := n) (by kernel_rfl) (by kernel_rfl) (by kernel_rfl) (by kernel_rfl) (by first | omega | (simp only [List.length_append, List.length_cons, List.length_nil, List.length_take, List.length_drop, List.length_map]; omega)) ?_
  refine ops_cat (a := (([77, 73, 77, 69, 45, 86, 101, 114, 115, 105, 111, 110, 58, 32, 49, 46, 48, 13, 10, 67, 111, 110, 116, 101, 110, 116, 45, 84, 121, 112, 101, 58, 32, 109, 117, 108, 116, 105, 112, 97, 114, 116, 47, 109, 105, 120, 101, 100, 59, 32, 98, 111, 117, 110, 100, 97, 114, 121, 61] ++ n) ++ [13, 10, 13, 10, 45, 45]) ++ n) (b := [13, 10, 67, 111, 110, 116, 101, 110, 116, 45, 84, 121, 112, 101, 58, 32, 116, 101, 120, 116, 47, 112, 108, 97, 105, 110, 13, 10, 13, 10]) (by kernel_rfl) (by kernel_rfl) (by kernel_rfl) (by kernel_rfl) (by first | omega | (simp only [List.length_append, List.length_cons, List.length_nil, List.length_take, List.length_drop, List.length_map]; omega)) ?_
  refine ops_run1 (l' := [(1, S n), (2, .pointer (some ⟨b1, 0, none⟩)), (4, S []), (5, S (((([77, 73, 77, 69, 45, 86, 101, 114, 115, 105, 111, 110, 58, 32, 49, 46, 48, 13, 10, 67, 111, 110, 116, 101, 110, 116, 45, 84, 121, 112, 101, 58, 32, 109, 117, 108, 116, 105, 112, 97, 114, 116, 47, 109, 105, 120, 101, 100, 59, 32, 98, 111, 117, 110, 100, 97, 114, 121, 61] ++ n) ++ [13, 10, 13, 10, 45, 45]) ++ n) ++ [13, 10, 67, 111, 110, 116, 101, 110, 116, 45, 84, 121, 112, 101, 58, 32, 116, 101, 120, 116, 47, 112, 108, 97, 105, 110, 13, 10, 13, 10]))]) (by kernel_rfl) ?_
  refine ops_nil (nx_seq (at_seq ?_))
  refine at_draw (m := 12) (listed := (bm 12 0)) (fun W => Blk W b1 [S fr, tv, .int .i64 at_] 26 ∧ True) (by kernel_rfl) (by kernel_rfl) (by kernel_rfl) (fun w2 c2 z3 _ _ => ?_)
  have z4 := c2.size
  have h2 := h1.keep0 c2 (by omega)
  refine ⟨⟨h2, trivial⟩, ?_⟩
  refine any_takes [0, 1] (fuel' := 10) (listed' := (bm 12 3)) (l' := [(1, S n), (2, .pointer (some ⟨b1, 0, none⟩)), (4, S []), (5, S (((([77, 73, 77, 69, 45, 86, 101, 114, 115, 105, 111, 110, 58, 32, 49, 46, 48, 13, 10, 67, 111, 110, 116, 101, 110, 116, 45, 84, 121, 112, 101, 58, 32, 109, 117, 108, 116, 105, 112, 97, 114, 116, 47, 109, 105, 120, 101, 100, 59, 32, 98, 111, 117, 110, 100, 97, 114, 121, 61] ++ n) ++ [13, 10, 13, 10, 45, 45]) ++ n) ++ [13, 10, 67, 111, 110, 116, 101, 110, 116, 45, 84, 121, 112, 101, 58, 32, 116, 101, 120, 116, 47, 112, 108, 97, 105, 110, 13, 10, 13, 10])), (14, S (((([77, 73, 77, 69, 45, 86, 101, 114, 115, 105, 111, 110, 58, 32, 49, 46, 48, 13, 10, 67, 111, 110, 116, 101, 110, 116, 45, 84, 121, 112, 101, 58, 32, 109, 117, 108, 116, 105, 112, 97, 114, 116, 47, 109, 105, 120, 101, 100, 59, 32, 98, 111, 117, 110, 100, 97, 114, 121, 61] ++ n) ++ [13, 10, 13, 10, 45, 45]) ++ n) ++ [13, 10, 67, 111, 110, 116, 101, 110, 116, 45, 84, 121, 112, 101, 58, 32, 116, 101, 120, 116, 47, 112, 108, 97, 105, 110, 13, 10, 13, 10])), (15, .pointer (some ⟨b1, 0, none⟩))]) panK_FB (by kernel_rfl) (by kernel_rfl) (by kernel_rfl) ?_
  refine any_load (i := 2) (j := 0) (listed' := (bm 12 7)) (v := S fr) panK_FB (by kernel_rfl) rfl (by kernel_rfl) (by kernel_rfl) (by kernel_rfl) (by kernel_rfl) (by kernel_rfl) (by kernel_rfl) (fun W hW => hW.1) (by kernel_rfl) ?_
  refine any_cat (q_ := 3) (listed' := (bm 12 15)) (a := [83, 101, 110, 100, 101, 114, 58, 32]) (b := fr) panK_FB (by kernel_rfl) rfl (by kernel_rfl) (by kernel_rfl) (by kernel_rfl) (by kernel_rfl) (by kernel_rfl) (by kernel_rfl) (by first | omega | (simp only [List.length_append, List.length_cons, List.length_nil, List.length_take, List.length_drop, List.length_map]; omega)) ?_
  refine any_cat (q_ := 4) (listed' := (bm 12 31)) (a := [83, 101, 110, 100, 101, 114, 58, 32] ++ fr) (b := [13, 10, 82, 101, 99, 101, 105, 118, 101, 100, 58, 32]) panK_FB (by kernel_rfl) rfl (by kernel_rfl) (by kernel_rfl) (by kernel_rfl) (by kernel_rfl) (by kernel_rfl) (by kernel_rfl) (by first | omega | (simp only [List.length_append, List.length_cons, List.length_nil, List.length_take, List.length_drop, List.length_map]; omega)) ?_
  refine any_takes [5] (fuel' := 6) (listed' := (bm 12 63)) (l' := [(1, S n), (2, .pointer (some ⟨b1, 0, none⟩)), (4, S []), (5, S (((([77, 73, 77, 69, 45, 86, 101, 114, 115, 105, 111, 110, 58, 32, 49, 46, 48, 13, 10, 67, 111, 110, 116, 101, 110, 116, 45, 84, 121, 112, 101, 58, 32, 109, 117, 108, 116, 105, 112, 97, 114, 116, 47, 109, 105, 120, 101, 100, 59, 32, 98, 111, 117, 110, 100, 97, 114, 121, 61] ++ n) ++ [13, 10, 13, 10, 45, 45]) ++ n) ++ [13, 10, 67, 111, 110, 116, 101, 110, 116, 45, 84, 121, 112, 101, 58, 32, 116, 101, 120, 116, 47, 112, 108, 97, 105, 110, 13, 10, 13, 10])), (14, S (((([77, 73, 77, 69, 45, 86, 101, 114, 115, 105, 111, 110, 58, 32, 49, 46, 48, 13, 10, 67, 111, 110, 116, 101, 110, 116, 45, 84, 121, 112, 101, 58, 32, 109, 117, 108, 116, 105, 112, 97, 114, 116, 47, 109, 105, 120, 101, 100, 59, 32, 98, 111, 117, 110, 100, 97, 114, 121, 61] ++ n) ++ [13, 10, 13, 10, 45, 45]) ++ n) ++ [13, 10, 67, 111, 110, 116, 101, 110, 116, 45, 84, 121, 112, 101, 58, 32, 116, 101, 120, 116, 47, 112, 108, 97, 105, 110, 13, 10, 13, 10])), (18, S (([83, 101, 110, 100, 101, 114, 58, 32] ++ fr) ++ [13, 10, 82, 101, 99, 101, 105, 118, 101, 100, 58, 32])), (19, .pointer (some ⟨b1, 2, none⟩))]) panK_FB (by kernel_rfl) (by kernel_rfl) (by kernel_rfl) ?_
  refine any_load (i := 6) (j := 2) (listed' := (bm 12 127)) (v := .int .i64 at_) panK_FB (by kernel_rfl) rfl (by kernel_rfl) (by kernel_rfl) (by kernel_rfl) (by kernel_rfl) (by kernel_rfl) (by kernel_rfl) (fun W hW => hW.1) (by kernel_rfl) ?_
  refine any_1 7 (bm 12 255) (by kernel_rfl) rfl (by kernel_rfl) ?_
  have h3 := hg.keep0 c1 (by omega)
  have h4 := h3.keep0 c2 (by omega)
  refine ops_callr (by kernel_rfl) (by kernel_rfl) (by kernel_rfl) (strconv_FormatInt_ok (at_) (by omega) (by omega) w2 h4) ?_
  rintro _ w3 ⟨rfl, c3⟩
  have z5 := c3.size
  refine ops_nil ?_
  have h5 := h2.keep0 c3 (by omega)
  refine nx_any ⟨h5, trivial⟩ ?_
  refine any_cat (q_ := 8) (listed' := (bm 12 511)) (a := ([83, 101, 110, 100, 101, 114, 58, 32] ++ fr) ++ [13, 10, 82, 101, 99, 101, 105, 118, 101, 100, 58, 32]) (b := Lib.itoa (at_)) panK_FB (by kernel_rfl) rfl (by kernel_rfl) (by kernel_rfl) (by kernel_rfl) (by kernel_rfl) (by kernel_rfl) (by kernel_rfl) (by first | omega | (simp only [List.length_append, List.length_cons, List.length_nil, List.length_take, List.length_drop, List.length_map]; omega)) ?_
  refine any_cat (q_ := 9) (listed' := (bm 12 1023)) (a := (([83, 101, 110, 100, 101, 114, 58, 32] ++ fr) ++ [13, 10, 82, 101, 99, 101, 105, 118, 101, 100, 58, 32]) ++ (Lib.itoa (at_))) (b := [13, 10]) panK_FB (by kernel_rfl) rfl (by kernel_rfl) (by kernel_rfl) (by kernel_rfl) (by kernel_rfl) (by kernel_rfl) (by kernel_rfl) (by first | omega | (simp only [List.length_append, List.length_cons, List.length_nil, List.length_take, List.length_drop, List.length_map]; omega)) ?_
  refine any_cat (q_ := 10) (listed' := (bm 12 2047)) (a := ((([77, 73, 77, 69, 45, 86, 101, 114, 115, 105, 111, 110, 58, 32, 49, 46, 48, 13, 10, 67, 111, 110, 116, 101, 110, 116, 45, 84, 121, 112, 101, 58, 32, 109, 117, 108, 116, 105, 112, 97, 114, 116, 47, 109, 105, 120, 101, 100, 59, 32, 98, 111, 117, 110, 100, 97, 114, 121, 61] ++ n) ++ [13, 10, 13, 10, 45, 45]) ++ n) ++ [13, 10, 67, 111, 110, 116, 101, 110, 116, 45, 84, 121, 112, 101, 58, 32, 116, 101, 120, 116, 47, 112, 108, 97, 105, 110, 13, 10, 13, 10]) (b := ((([83, 101, 110, 100, 101, 114, 58, 32] ++ fr) ++ [13, 10, 82, 101, 99, 101, 105, 118, 101, 100, 58, 32]) ++ (Lib.itoa (at_))) ++ [13, 10]) panK_FB (by kernel_rfl) rfl (by kernel_rfl) (by kernel_rfl) (by kernel_rfl) (by kernel_rfl) (by kernel_rfl) (by kernel_rfl) (by first | omega | (simp only [List.length_append, List.length_cons, List.length_nil, List.length_take, List.length_drop, List.length_map]; omega)) ?_
  refine any_takes [11] (fuel' := 0) (listed' := (bm 12 4095)) (l' := [(1, S n), (2, .pointer (some ⟨b1, 0, none⟩)), (4, S []), (5, S ((((([77, 73, 77, 69, 45, 86, 101, 114, 115, 105, 111, 110, 58, 32, 49, 46, 48, 13, 10, 67, 111, 110, 116, 101, 110, 116, 45, 84, 121, 112, 101, 58, 32, 109, 117, 108, 116, 105, 112, 97, 114, 116, 47, 109, 105, 120, 101, 100, 59, 32, 98, 111, 117, 110, 100, 97, 114, 121, 61] ++ n) ++ [13, 10, 13, 10, 45, 45]) ++ n) ++ [13, 10, 67, 111, 110, 116, 101, 110, 116, 45, 84, 121, 112, 101, 58, 32, 116, 101, 120, 116, 47, 112, 108, 97, 105, 110, 13, 10, 13, 10]) ++ (((([83, 101, 110, 100, 101, 114, 58, 32] ++ fr) ++ [13, 10, 82, 101, 99, 101, 105, 118, 101, 100, 58, 32]) ++ (Lib.itoa (at_))) ++ [13, 10])))]) panK_FB (by kernel_rfl) (by kernel_rfl) (by kernel_rfl) ?_
  refine any_done (by kernel_rfl) ?_
  refine nx_seq (at_seq (at_seq (at_region ?_)))
  refine ops_run1 (l' := [(1, S n), (4, S []), (5, S ((((([77, 73, 77, 69, 45, 86, 101, 114, 115, 105, 111, 110, 58, 32, 49, 46, 48, 13, 10, 67, 111, 110, 116, 101, 110, 116, 45, 84, 121, 112, 101, 58, 32, 109, 117, 108, 116, 105, 112, 97, 114, 116, 47, 109, 105, 120, 101, 100, 59, 32, 98, 111, 117, 110, 100, 97, 114, 121, 61] ++ n) ++ [13, 10, 13, 10, 45, 45]) ++ n) ++ [13, 10, 67, 111, 110, 116, 101, 110, 116, 45, 84, 121, 112, 101, 58, 32, 116, 101, 120, 116, 47, 112, 108, 97, 105, 110, 13, 10, 13, 10]) ++ (((([83, 101, 110, 100, 101, 114, 58, 32] ++ fr) ++ [13, 10, 82, 101, 99, 101, 105, 118, 101, 100, 58, 32]) ++ (Lib.itoa (at_))) ++ [13, 10]))), (25, .pointer (some ⟨b1, 1, none⟩))]) (by kernel_rfl) ?_
  refine ops_loadB (i := 1) (v := tv) (by kernel_rfl) (by kernel_rfl) (by kernel_rfl) (by kernel_rfl) h5 (by kernel_rfl) ?_
  have h6 := ht.keep0 c1 (by omega)
  have h7 := h6.keep0 c2 (by omega)
  have h8 := h7.keep0 c3 (by omega)
  refine ops_len (e := 9) (by kernel_rfl) (by kernel_rfl) (by kernel_rfl) (by kernel_rfl) h8 ?_
  refine ops_run1 (l' := [(1, S n), (4, S []), (5, S ((((([77, 73, 77, 69, 45, 86, 101, 114, 115, 105, 111, 110, 58, 32, 49, 46, 48, 13, 10, 67, 111, 110, 116, 101, 110, 116, 45, 84, 121, 112, 101, 58, 32, 109, 117, 108, 116, 105, 112, 97, 114, 116, 47, 109, 105, 120, 101, 100, 59, 32, 98, 111, 117, 110, 100, 97, 114, 121, 61] ++ n) ++ [13, 10, 13, 10, 45, 45]) ++ n) ++ [13, 10, 67, 111, 110, 116, 101, 110, 116, 45, 84, 121, 112, 101, 58, 32, 116, 101, 120, 116, 47, 112, 108, 97, 105, 110, 13, 10, 13, 10]) ++ (((([83, 101, 110, 100, 101, 114, 58, 32] ++ fr) ++ [13, 10, 82, 101, 99, 101, 105, 118, 101, 100, 58, 32]) ++ (Lib.itoa (at_))) ++ [13, 10]))), (26, tv), (27, .int .i64 ((to.length : Int))), (28, .int .i64 0)]) (by kernel_rfl) ?_
  refine ops_nil (nx_seq (at_block ?_))
  refine at_loop (X := Bytes × Nat) (fun x_ => [(1, S n), (4, S []), (5, S x_.1), (26, tv), (27, .int .i64 ((to.length : Int))), (28, .int .i64 ((x_.2 : Int)))]) (fun x_ W1 => Chg [] (w3.heap.size) w3 W1 ∧ (x_.2 ≤ to.length) ∧ (x_.1 = ((((([77, 73, 77, 69, 45, 86, 101, 114, 115, 105, 111, 110, 58, 32, 49, 46, 48, 13, 10, 67, 111, 110, 116, 101, 110, 116, 45, 84, 121, 112, 101, 58, 32, 109, 117, 108, 116, 105, 112, 97, 114, 116, 47, 109, 105, 120, 101, 100, 59, 32, 98, 111, 117, 110, 100, 97, 114, 121, 61] ++ n) ++ [13, 10, 13, 10, 45, 45]) ++ n) ++ [13, 10, 67, 111, 110, 116, 101, 110, 116, 45, 84, 121, 112, 101, 58, 32, 116, 101, 120, 116, 47, 112, 108, 97, 105, 110, 13, 10, 13, 10]) ++ (((([83, 101, 110, 100, 101, 114, 58, 32] ++ fr) ++ [13, 10, 82, 101, 99, 101, 105, 118, 101, 100, 58, 32]) ++ (Lib.itoa (at_))) ++ [13, 10])) ++ linesP ((to.take x_.2).map (cRP ++ ·))) ∧ (x_.1.length ≤ 4000000 + x_.2 * 1000100)) (fun x_ => to.length - x_.2) ((((([77, 73, 77, 69, 45, 86, 101, 114, 115, 105, 111, 110, 58, 32, 49, 46, 48, 13, 10, 67, 111, 110, 116, 101, 110, 116, 45, 84, 121, 112, 101, 58, 32, 109, 117, 108, 116, 105, 112, 97, 114, 116, 47, 109, 105, 120, 101, 100, 59, 32, 98, 111, 117, 110, 100, 97, 114, 121, 61] ++ n) ++ [13, 10, 13, 10, 45, 45]) ++ n) ++ [13, 10, 67, 111, 110, 116, 101, 110, 116, 45, 84, 121, 112, 101, 58, 32, 116, 101, 120, 116, 47, 112, 108, 97, 105, 110, 13, 10, 13, 10]) ++ (((([83, 101, 110, 100, 101, 114, 58, 32] ++ fr) ++ [13, 10, 82, 101, 99, 101, 105, 118, 101, 100, 58, 32]) ++ (Lib.itoa (at_))) ++ [13, 10]), 0) (proj_sub [1, 4, 5, 26, 27, 28] (by kernel_rfl)) ⟨(Chg.refl [] w3), (show 0 ≤ to.length by first | omega | (simp only [List.length_append, List.length_cons, List.length_nil, List.length_take, List.length_drop, List.length_map]; omega)), (show ((((([77, 73, 77, 69, 45, 86, 101, 114, 115, 105, 111, 110, 58, 32, 49, 46, 48, 13, 10, 67, 111, 110, 116, 101, 110, 116, 45, 84, 121, 112, 101, 58, 32, 109, 117, 108, 116, 105, 112, 97, 114, 116, 47, 109, 105, 120, 101, 100, 59, 32, 98, 111, 117, 110, 100, 97, 114, 121, 61] ++ n) ++ [13, 10, 13, 10, 45, 45]) ++ n) ++ [13, 10, 67, 111, 110, 116, 101, 110, 116, 45, 84, 121, 112, 101, 58, 32, 116, 101, 120, 116, 47, 112, 108, 97, 105, 110, 13, 10, 13, 10]) ++ (((([83, 101, 110, 100, 101, 114, 58, 32] ++ fr) ++ [13, 10, 82, 101, 99, 101, 105, 118, 101, 100, 58, 32]) ++ (Lib.itoa (at_))) ++ [13, 10])) = ((((([77, 73, 77, 69, 45, 86, 101, 114, 115, 105, 111, 110, 58, 32, 49, 46, 48, 13, 10, 67, 111, 110, 116, 101, 110, 116, 45, 84, 121, 112, 101, 58, 32, 109, 117, 108, 116, 105, 112, 97, 114, 116, 47, 109, 105, 120, 101, 100, 59, 32, 98, 111, 117, 110, 100, 97, 114, 121, 61] ++ n) ++ [13, 10, 13, 10, 45, 45]) ++ n) ++ [13, 10, 67, 111, 110, 116, 101, 110, 116, 45, 84, 121, 112, 101, 58, 32, 116, 101, 120, 116, 47, 112, 108, 97, 105, 110, 13, 10, 13, 10]) ++ (((([83, 101, 110, 100, 101, 114, 58, 32] ++ fr) ++ [13, 10, 82, 101, 99, 101, 105, 118, 101, 100, 58, 32]) ++ (Lib.itoa (at_))) ++ [13, 10])) ++ linesP ((to.take 0).map (cRP ++ ·)) by simp [linesP]), (show ((((([77, 73, 77, 69, 45, 86, 101, 114, 115, 105, 111, 110, 58, 32, 49, 46, 48, 13, 10, 67, 111, 110, 116, 101, 110, 116, 45, 84, 121, 112, 101, 58, 32, 109, 117, 108, 116, 105, 112, 97, 114, 116, 47, 109, 105, 120, 101, 100, 59, 32, 98, 111, 117, 110, 100, 97, 114, 121, 61] ++ n) ++ [13, 10, 13, 10, 45, 45]) ++ n) ++ [13, 10, 67, 111, 110, 116, 101, 110, 116, 45, 84, 121, 112, 101, 58, 32, 116, 101, 120, 116, 47, 112, 108, 97, 105, 110, 13, 10, 13, 10]) ++ (((([83, 101, 110, 100, 101, 114, 58, 32] ++ fr) ++ [13, 10, 82, 101, 99, 101, 105, 118, 101, 100, 58, 32]) ++ (Lib.itoa (at_))) ++ [13, 10])).length ≤ 4000000 + 0 * 1000100 by simp only [List.length_append, List.length_cons, List.length_nil]; omega)⟩ ?_
  rintro ⟨o, k⟩ w4 ⟨h9, h10, h11, h12⟩
  replace h9 : Chg [] (w3.heap.size) w3 w4 := h9
  replace h10 : (k ≤ to.length) := h10
  replace h11 : (o = ((((([77, 73, 77, 69, 45, 86, 101, 114, 115, 105, 111, 110, 58, 32, 49, 46, 48, 13, 10, 67, 111, 110, 116, 101, 110, 116, 45, 84, 121, 112, 101, 58, 32, 109, 117, 108, 116, 105, 112, 97, 114, 116, 47, 109, 105, 120, 101, 100, 59, 32, 98, 111, 117, 110, 100, 97, 114, 121, 61] ++ n) ++ [13, 10, 13, 10, 45, 45]) ++ n) ++ [13, 10, 67, 111, 110, 116, 101, 110, 116, 45, 84, 121, 112, 101, 58, 32, 116, 101, 120, 116, 47, 112, 108, 97, 105, 110, 13, 10, 13, 10]) ++ (((([83, 101, 110, 100, 101, 114, 58, 32] ++ fr) ++ [13, 10, 82, 101, 99, 101, 105, 118, 101, 100, 58, 32]) ++ (Lib.itoa (at_))) ++ [13, 10])) ++ linesP ((to.take k).map (cRP ++ ·))) := h11
  replace h12 : (o.length ≤ 4000000 + k * 1000100) := h12
  have z6 := h9.size
  have ho := h11
  refine at_seq (at_region ?_)
  refine ops_run1 (l' := [(1, S n), (4, S []), (5, S o), (26, tv), (27, .int .i64 ((to.length : Int))), (28, .int .i64 ((k : Int))), (29, .bool (decide (((k : Int) : Int) < ((to.length : Int) : Int))))]) (by kernel_rfl) ?_
  refine ops_nil (nx_seq (at_seq ?_))
  refine at_ifp (((k : Int) : Int) < ((to.length : Int) : Int)) (by kernel_rfl) (fun q1 => ?_) (fun q1 => ?_)
  refine at_skip (nx_seq (at_seq (at_block (at_seq (at_region ?_)))))
  have h13 := h8.keep0 h9 (by omega)
  refine ops_idx (e := 9) (i := (k : Int)) (kd := .i64) k (by kernel_rfl) (by kernel_rfl) (by kernel_rfl) (by kernel_rfl) (by kernel_rfl) (by kernel_rfl) h13 (by omega) (by first | omega | (simp only [List.length_append, List.length_cons, List.length_nil, List.length_take, List.length_drop, List.length_map]; omega)) (fun a1 h14 => ?_)
  have h15 := cell_sAt (l := to) (j := k) h14 (by omega)
  refine ops_load (by kernel_rfl) (by kernel_rfl) (by kernel_rfl) (by kernel_rfl) h15 ?_
  have hpl := hto (to.getD k []) (getD_mem (by omega))
  refine ops_run1 (l' := [(1, S n), (4, S []), (5, S o), (7, S (to.getD k [])), (26, tv), (27, .int .i64 ((to.length : Int))), (28, .int .i64 ((k : Int)))]) (by kernel_rfl) ?_
  refine ops_nil (nx_seq (at_region ?_))
  refine ops_run2 (l' := [(1, S n), (4, S []), (5, S o), (26, tv), (27, .int .i64 ((to.length : Int))), (28, .int .i64 ((k : Int))), (32, S o), (33, S (to.getD k []))]) (by kernel_rfl) ?_
  refine ops_cat (a := [82, 101, 99, 105, 112, 105, 101, 110, 116, 58, 32]) (b := to.getD k []) (by kernel_rfl) (by kernel_rfl) (by kernel_rfl) (by kernel_rfl) (by first | omega | (simp only [List.length_append, List.length_cons, List.length_nil, List.length_take, List.length_drop, List.length_map]; omega)) ?_
  refine ops_cat (a := [82, 101, 99, 105, 112, 105, 101, 110, 116, 58, 32] ++ (to.getD k [])) (b := [13, 10]) (by kernel_rfl) (by kernel_rfl) (by kernel_rfl) (by kernel_rfl) (by first | omega | (simp only [List.length_append, List.length_cons, List.length_nil, List.length_take, List.length_drop, List.length_map]; omega)) ?_
  refine ops_cat (a := o) (b := ([82, 101, 99, 105, 112, 105, 101, 110, 116, 58, 32] ++ (to.getD k [])) ++ [13, 10]) (by kernel_rfl) (by kernel_rfl) (by kernel_rfl) (by kernel_rfl) (by first | omega | (simp only [List.length_append, List.length_cons, List.length_nil, List.length_take, List.length_drop, List.length_map]; omega)) ?_
  refine ops_run1 (l' := [(1, S n), (4, S []), (5, S (o ++ (([82, 101, 99, 105, 112, 105, 101, 110, 116, 58, 32] ++ (to.getD k [])) ++ [13, 10]))), (26, tv), (27, .int .i64 ((to.length : Int))), (28, .int .i64 ((k : Int)))]) (by kernel_rfl) ?_
  refine ops_nil (nx_blk (nx_seq (at_region ?_)))
  refine ops_add (a := (k : Int)) (b := 1) (kd := .i64) (by kernel_rfl) (by kernel_rfl) (by kernel_rfl) (by kernel_rfl) (show (-9223372036854775808 : Int) ≤ ((k : Int)) + 1 by omega) (show ((k : Int)) + 1 ≤ (9223372036854775807 : Int) by omega) ?_
  refine ops_run1 (l' := [(1, S n), (4, S []), (5, S (o ++ (([82, 101, 99, 105, 112, 105, 101, 110, 116, 58, 32] ++ (to.getD k [])) ++ [13, 10]))), (26, tv), (27, .int .i64 ((to.length : Int))), (28, .int .i64 (((k : Int)) + 1))]) (by kernel_rfl) ?_
  refine ops_nil ?_
  refine nx_round (o ++ (([82, 101, 99, 105, 112, 105, 101, 110, 116, 58, 32] ++ (to.getD k [])) ++ [13, 10]), (k) + 1) (proj_sub [1, 4, 5, 26, 27, 28] (by kernel_rfl)) ⟨((Chg.refl [] w3).step0 h9 (by omega)), (show ((k) + 1) ≤ to.length by first | omega | (simp only [List.length_append, List.length_cons, List.length_nil, List.length_take, List.length_drop, List.length_map]; omega)), (show (o ++ (([82, 101, 99, 105, 112, 105, 101, 110, 116, 58, 32] ++ (to.getD k [])) ++ [13, 10])) = ((((([77, 73, 77, 69, 45, 86, 101, 114, 115, 105, 111, 110, 58, 32, 49, 46, 48, 13, 10, 67, 111, 110, 116, 101, 110, 116, 45, 84, 121, 112, 101, 58, 32, 109, 117, 108, 116, 105, 112, 97, 114, 116, 47, 109, 105, 120, 101, 100, 59, 32, 98, 111, 117, 110, 100, 97, 114, 121, 61] ++ n) ++ [13, 10, 13, 10, 45, 45]) ++ n) ++ [13, 10, 67, 111, 110, 116, 101, 110, 116, 45, 84, 121, 112, 101, 58, 32, 116, 101, 120, 116, 47, 112, 108, 97, 105, 110, 13, 10, 13, 10]) ++ (((([83, 101, 110, 100, 101, 114, 58, 32] ++ fr) ++ [13, 10, 82, 101, 99, 101, 105, 118, 101, 100, 58, 32]) ++ (Lib.itoa (at_))) ++ [13, 10])) ++ linesP ((to.take ((k) + 1)).map (cRP ++ ·)) by rw [ho, List.take_add_one, List.getElem?_eq_getElem (by omega), List.map_append, linesP_append]; simp [linesP, List.getD_eq_getElem?_getD, List.getElem?_eq_getElem (show k < to.length by omega)]), (show (o ++ (([82, 101, 99, 105, 112, 105, 101, 110, 116, 58, 32] ++ (to.getD k [])) ++ [13, 10])).length ≤ 4000000 + ((k) + 1) * 1000100 by simp only [List.length_append, List.length_cons, List.length_nil]; omega)⟩ (show to.length - ((k) + 1) < to.length - k by omega)
  refine at_exit (ex_seq (ex_inv (ex_here (nx_seq (at_seq (at_region ?_))))))
  refine ops_run1 (l' := [(1, S n), (4, S []), (38, S o)]) (by kernel_rfl) ?_
  refine ops_cat (a := o) (b := [45, 45]) (by kernel_rfl) (by kernel_rfl) (by kernel_rfl) (by kernel_rfl) (by first | omega | (simp only [List.length_append, List.length_cons, List.length_nil, List.length_take, List.length_drop, List.length_map]; omega)) ?_
  refine ops_run1 (l' := [(4, S []), (39, S (o ++ [45, 45])), (40, S n)]) (by kernel_rfl) ?_
  refine ops_cat (a := o ++ [45, 45]) (b := n) (by kernel_rfl) (by kernel_rfl) (by kernel_rfl) (by kernel_rfl) (by first | omega | (simp only [List.length_append, List.length_cons, List.length_nil, List.length_take, List.length_drop, List.length_map]; omega)) ?_
  refine ops_cat (a := (o ++ [45, 45]) ++ n) (b := [13, 10, 67, 111, 110, 116, 101, 110, 116, 45, 84, 121, 112, 101, 58, 32, 109, 101, 115, 115, 97, 103, 101, 47, 114, 102, 99, 56, 50, 50, 13, 10, 13, 10]) (by kernel_rfl) (by kernel_rfl) (by kernel_rfl) (by kernel_rfl) (by first | omega | (simp only [List.length_append, List.length_cons, List.length_nil, List.length_take, List.length_drop, List.length_map]; omega)) ?_
  refine ops_run1 (l' := [(4, S (((o ++ [45, 45]) ++ n) ++ [13, 10, 67, 111, 110, 116, 101, 110, 116, 45, 84, 121, 112, 101, 58, 32, 109, 101, 115, 115, 97, 103, 101, 47, 114, 102, 99, 56, 50, 50, 13, 10, 13, 10]))]) (by kernel_rfl) ?_
  refine ops_nil (nx_seq ?_)
  refine at_ret (rs := [.tmp 4]) (vs := [S (((o ++ [45, 45]) ++ n) ++ [13, 10, 67, 111, 110, 116, 101, 110, 116, 45, 84, 121, 112, 101, 58, 32, 109, 101, 115, 115, 97, 103, 101, 47, 114, 102, 99, 56, 50, 50, 13, 10, 13, 10])]) rfl (by kernel_rfl) ?_
  have e9 : k = to.length := by omega
  subst e9
  rw [List.take_length] at ho
  exact ⟨_, rfl, (congrArg S (by rw [ho]; unfold aheadL; rw [linesP_append, linesP_append]; simp [linesP])), (((((Chg.refl [] w).step0 c1 (by omega)).step0 c2 (by omega)).step0 c3 (by omega)).step0 h9 (by omega))⟩

end Go.Proofs.YtnjkdnbabogcjaaDoor
