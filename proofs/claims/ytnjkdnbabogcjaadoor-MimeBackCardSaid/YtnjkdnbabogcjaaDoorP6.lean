/- A walk, printed by a program of my own (wip/gen/walk.py) from a script of mine. -/
import Derived.Test.YtnjkdnbabogcjaaDoorProg
import Derived.Test.YtnjkdnbabogcjaaDoorL0
import Derived.Test.YtnjkdnbabogcjaaDoorP5
set_option maxHeartbeats 4000000
set_option linter.unusedVariables false
set_option linter.unusedSimpArgs false
set_option maxRecDepth 100000
namespace Go.Proofs.YtnjkdnbabogcjaaDoor
open Go Go.RowKit Go.Kw

theorem letters_ok (s : Bytes) (hs : s.length < 4611686018427387904) (w : World) : Pu Tryd.prog 90 #[S s] w (.bool (decide (smallP s 20))) := by
  refine enter (n := 23) (args := [S s]) Tryd.func90 rfl rfl (Nat.le_of_ble_eq_true (by kernel_rfl)) ?_
  refine at_seq (at_region ?_)
  refine ops_run1 (l' := [(0, S s), (2, .bool false)]) (by kernel_rfl) ?_
  refine ops_nil (nx_seq (at_seq (at_seq (at_region ?_))))
  refine ops_run1 (l' := [(0, S s), (2, .bool false), (5, S s)]) (by kernel_rfl) ?_
  refine ops_range (s := s) (by kernel_rfl) (by kernel_rfl) (by kernel_rfl) (by kernel_rfl) (fun b1 w1 e1 h1 c1 z1 => ?_)
  have z2 := c1.size
  refine ops_nil (nx_seq (at_block ?_))
  refine at_loop (X := Nat) (fun x_ => [(0, S s), (2, .bool false), (6, .pointer (some ⟨b1, 0, none⟩))]) (fun x_ W1 => Chg [b1] (w1.heap.size) w1 W1 ∧ Ob W1 b1 (.stringIter ⟨s.toArray⟩ x_) ∧ (x_ ≤ s.length) ∧ (∀ j, j < x_ → 97 ≤ bAt s j ∧ bAt s j ≤ 122)) (fun x_ => s.length - x_) 0 (proj_sub [0, 2, 6] (by kernel_rfl)) ⟨(Chg.refl [b1] w1), h1, (show 0 ≤ s.length by first | omega | (simp only [List.length_append, List.length_cons, List.length_nil, List.length_take, List.length_drop, List.length_map]; omega)), (show ∀ j, j < 0 → 97 ≤ bAt s j ∧ bAt s j ≤ 122 by intro j hj; omega)⟩ ?_
  rintro p w2 ⟨h2, h3, h4, h5⟩
  replace h2 : Chg [b1] (w1.heap.size) w1 w2 := h2
  replace h3 : Ob w2 b1 (.stringIter ⟨s.toArray⟩ p) := h3
  replace h4 : (p ≤ s.length) := h4
  replace h5 : (∀ j, j < p → 97 ≤ bAt s j ∧ bAt s j ≤ 122) := h5
  have z3 := h2.size
  have hall := h5
  refine at_seq (at_region ?_)
  refine ops_next (s := s) (b := b1) (pos := p) (by kernel_rfl) (by kernel_rfl) (by kernel_rfl) h3 ?_ ?_
  rintro c2 q1 w3 hp1 hq1 h6 c3 z4
  have z5 := c3.size
  refine ops_run1 (l' := [(0, S s), (2, .bool false), (6, .pointer (some ⟨b1, 0, none⟩)), (7, .tuple #[.bool true, .int .i64 ((p : Int)), .int .i32 c2]), (8, .bool true)]) (by kernel_rfl) ?_
  refine ops_nil (nx_seq (at_seq ?_))
  refine at_ift (by kernel_rfl) ?_
  refine at_skip (nx_seq (at_block (at_seq (at_region ?_))))
  refine ops_run2 (l' := [(0, S s), (2, .bool false), (4, .int .i32 c2), (6, .pointer (some ⟨b1, 0, none⟩))]) (by kernel_rfl) ?_
  refine ops_nil (nx_seq (at_seq (at_region ?_)))
  refine ops_run3 (l' := [(0, S s), (2, .bool false), (4, .int .i32 c2), (6, .pointer (some ⟨b1, 0, none⟩)), (12, .bool (decide ((c2 : Int) < (97 : Int))))]) (by kernel_rfl) ?_
  by_cases q2 : (c2 : Int) < (97 : Int)
  rw [show (decide ((c2 : Int) < (97 : Int))) = true from decide_eq_true q2]
  refine ops_run3 (l' := [(0, S s), (2, .bool false), (6, .pointer (some ⟨b1, 0, none⟩)), (15, .bool true)]) (by kernel_rfl) ?_
  refine ops_nil (nx_seq ?_)
  refine at_ift (by kernel_rfl) ?_
  refine at_seq (at_region ?_)
  refine ops_run1 (l' := [(0, S s), (2, .bool false), (6, .pointer (some ⟨b1, 0, none⟩))]) (by kernel_rfl) ?_
  refine ops_nil (nx_seq ?_)
  refine at_ret (rs := [.tmp 2]) (vs := [.bool false]) rfl (by kernel_rfl) ?_
  exact ⟨_, rfl, (congrArg Value.bool (decide_eq_false (p := smallP s 20) (by rintro ⟨h1, h2, h3⟩; have := h3 p (by omega); omega)).symm), ((((Chg.refl [] w).step0 c1 (by omega)).step h2 (by omega) (by intro y hy; simp only [List.mem_cons, List.not_mem_nil, or_false, false_or] at hy ⊢; try omega)).step c3 (by omega) (by intro y hy; simp only [List.mem_cons, List.not_mem_nil, or_false, false_or] at hy ⊢; try omega))⟩
  rw [show (decide ((c2 : Int) < (97 : Int))) = false from decide_eq_false q2]
  refine ops_run3 (l' := [(0, S s), (2, .bool false), (6, .pointer (some ⟨b1, 0, none⟩)), (15, .bool (decide ((c2 : Int) > (122 : Int))))]) (by kernel_rfl) ?_
  refine ops_nil (nx_seq ?_)
  refine at_ifp ((c2 : Int) > (122 : Int)) (by kernel_rfl) (fun q3 => ?_) (fun q3 => ?_)
  refine at_seq (at_region ?_)
  refine ops_run1 (l' := [(0, S s), (2, .bool false), (6, .pointer (some ⟨b1, 0, none⟩))]) (by kernel_rfl) ?_
  refine ops_nil (nx_seq ?_)
  refine at_ret (rs := [.tmp 2]) (vs := [.bool false]) rfl (by kernel_rfl) ?_
  exact ⟨_, rfl, (congrArg Value.bool (decide_eq_false (p := smallP s 20) (by rintro ⟨h1, h2, h3⟩; have := h3 p (by omega); omega)).symm), ((((Chg.refl [] w).step0 c1 (by omega)).step h2 (by omega) (by intro y hy; simp only [List.mem_cons, List.not_mem_nil, or_false, false_or] at hy ⊢; try omega)).step c3 (by omega) (by intro y hy; simp only [List.mem_cons, List.not_mem_nil, or_false, false_or] at hy ⊢; try omega))⟩
  refine at_skip (nx_blk ?_)
  refine nx_round q1 (proj_sub [0, 2, 6] (by kernel_rfl)) ⟨(((Chg.refl [b1] w1).step h2 (by omega) (by intro y hy; simp only [List.mem_cons, List.not_mem_nil, or_false, false_or] at hy ⊢; try omega)).step c3 (by omega) (by intro y hy; simp only [List.mem_cons, List.not_mem_nil, or_false, false_or] at hy ⊢; try omega)), h6, (show q1 ≤ s.length by first | omega | (simp only [List.length_append, List.length_cons, List.length_nil, List.length_take, List.length_drop, List.length_map]; omega)), (show ∀ j, j < q1 → 97 ≤ bAt s j ∧ bAt s j ≤ 122 by exact fun j hj => if e : j = p then (by rw [e]; omega) else hall j (by omega))⟩ (show s.length - q1 < s.length - p by omega)
  intro hp1
  refine ops_run1 (l' := [(0, S s), (2, .bool false), (6, .pointer (some ⟨b1, 0, none⟩)), (7, .tuple #[.bool false]), (8, .bool false)]) (by kernel_rfl) ?_
  refine ops_nil (nx_seq (at_seq ?_))
  refine at_iff (by kernel_rfl) ?_
  refine at_exit (ex_seq (ex_inv (ex_here (nx_seq (at_seq (at_region ?_))))))
  refine ops_run1 (l' := [(0, S s), (2, .bool false), (16, S s)]) (by kernel_rfl) ?_
  refine ops_neS (a := s) (b := []) (by kernel_rfl) (by kernel_rfl) (by kernel_rfl) (by kernel_rfl) ?_
  refine ops_run1 (l' := [(0, S s), (2, .bool false), (18, .bool (decide ((s : Bytes) ≠ [])))]) (by kernel_rfl) ?_
  by_cases q4 : (s : Bytes) ≠ []
  rw [show (decide ((s : Bytes) ≠ [])) = true from decide_eq_true q4]
  have l1 := List.length_pos_iff.2 q4
  refine ops_run5 (l' := [(2, .bool (decide (((s.length : Int) : Int) ≤ (20 : Int))))]) (by kernel_rfl) ?_
  refine ops_nil (nx_seq ?_)
  refine at_ret (rs := [.tmp 2]) (vs := [.bool (decide (((s.length : Int) : Int) ≤ (20 : Int)))]) rfl (by kernel_rfl) ?_
  exact ⟨_, rfl, (congrArg Value.bool (decide_eq_decide.2 (show (((s.length : Int) : Int) ≤ (20 : Int)) ↔ (smallP s 20) by exact ⟨fun _ => ⟨by omega, by omega, fun j hj => hall j (by omega)⟩, fun h => by have := h.2.1; omega⟩))), (((Chg.refl [] w).step0 c1 (by omega)).step h2 (by omega) (by intro y hy; simp only [List.mem_cons, List.not_mem_nil, or_false, false_or] at hy ⊢; try omega))⟩
  rw [show (decide ((s : Bytes) ≠ [])) = false from decide_eq_false q4]
  have l2 : s.length = 0 := by rw [Decidable.of_not_not q4]; rfl
  refine ops_run5 (l' := [(2, .bool false)]) (by kernel_rfl) ?_
  refine ops_nil (nx_seq ?_)
  refine at_ret (rs := [.tmp 2]) (vs := [.bool false]) rfl (by kernel_rfl) ?_
  exact ⟨_, rfl, (congrArg Value.bool (decide_eq_false (p := smallP s 20) (by rintro ⟨h1, h2, h3⟩; omega)).symm), (((Chg.refl [] w).step0 c1 (by omega)).step h2 (by omega) (by intro y hy; simp only [List.mem_cons, List.not_mem_nil, or_false, false_or] at hy ⊢; try omega))⟩
theorem small_ok (s : Bytes) (n : Int) (hs : s.length < 4611686018427387904) (w : World) : Pu Tryd.prog 93 #[S s, .int .i64 n] w (.bool (decide (smallP s n))) := by
  refine enter (n := 31) (args := [S s, .int .i64 n]) Tryd.func93 rfl rfl (Nat.le_of_ble_eq_true (by kernel_rfl)) ?_
  refine at_seq (at_region ?_)
  refine ops_run1 (l' := [(0, S s), (1, .int .i64 n), (4, .bool false)]) (by kernel_rfl) ?_
  refine ops_nil (nx_seq (at_seq (at_seq (at_region ?_))))
  refine ops_run1 (l' := [(0, S s), (1, .int .i64 n), (4, .bool false), (5, .int .i64 0)]) (by kernel_rfl) ?_
  refine ops_nil (nx_seq (at_block ?_))
  refine at_loop (X := Nat) (fun x_ => [(0, S s), (1, .int .i64 n), (4, .bool false), (5, .int .i64 ((x_ : Int)))]) (fun x_ W1 => Chg [] (w.heap.size) w W1 ∧ (x_ ≤ s.length) ∧ (∀ j, j < x_ → 97 ≤ bAt s j ∧ bAt s j ≤ 122)) (fun x_ => s.length - x_) 0 (proj_sub [0, 1, 4, 5] (by kernel_rfl)) ⟨(Chg.refl [] w), (show 0 ≤ s.length by first | omega | (simp only [List.length_append, List.length_cons, List.length_nil, List.length_take, List.length_drop, List.length_map]; omega)), (show ∀ j, j < 0 → 97 ≤ bAt s j ∧ bAt s j ≤ 122 by intro j hj; omega)⟩ ?_
  rintro i w1 ⟨h1, h2, h3⟩
  replace h1 : Chg [] (w.heap.size) w w1 := h1
  replace h2 : (i ≤ s.length) := h2
  replace h3 : (∀ j, j < i → 97 ≤ bAt s j ∧ bAt s j ≤ 122) := h3
  have z1 := h1.size
  have hall := h3
  refine at_seq (at_seq (at_region ?_))
  refine ops_run4 (l' := [(0, S s), (1, .int .i64 n), (4, .bool false), (5, .int .i64 ((i : Int))), (9, .bool (decide (((i : Int) : Int) < ((s.length : Int) : Int))))]) (by kernel_rfl) ?_
  refine ops_nil (nx_seq ?_)
  refine at_ifp (((i : Int) : Int) < ((s.length : Int) : Int)) (by kernel_rfl) (fun q1 => ?_) (fun q1 => ?_)
  refine at_skip (nx_seq (at_seq (at_block (at_seq (at_region ?_)))))
  refine ops_run2 (l' := [(0, S s), (1, .int .i64 n), (4, .bool false), (5, .int .i64 ((i : Int))), (12, S s), (13, .int .i64 ((i : Int)))]) (by kernel_rfl) ?_
  refine ops_at (b := s) (i := (i : Int)) (kd := .i64) i (by kernel_rfl) (by kernel_rfl) (by kernel_rfl) (by kernel_rfl) (by kernel_rfl) (by omega) (by omega) ?_
  have r1 := bAt_range s i
  refine ops_run2 (l' := [(0, S s), (1, .int .i64 n), (4, .bool false), (5, .int .i64 ((i : Int))), (16, .bool (decide ((bAt s i : Int) < (97 : Int))))]) (by kernel_rfl) ?_
  by_cases q2 : (bAt s i : Int) < (97 : Int)
  rw [show (decide ((bAt s i : Int) < (97 : Int))) = true from decide_eq_true q2]
  refine ops_run5 (l' := [(0, S s), (1, .int .i64 n), (4, .bool false), (5, .int .i64 ((i : Int))), (21, .bool true)]) (by kernel_rfl) ?_
  refine ops_nil (nx_seq ?_)
  refine at_ift (by kernel_rfl) ?_
  refine at_seq (at_region ?_)
  refine ops_run1 (l' := [(0, S s), (1, .int .i64 n), (4, .bool false), (5, .int .i64 ((i : Int)))]) (by kernel_rfl) ?_
  refine ops_nil (nx_seq ?_)
  refine at_ret (rs := [.tmp 4]) (vs := [.bool false]) rfl (by kernel_rfl) ?_
  exact ⟨_, rfl, (congrArg Value.bool (decide_eq_false (p := smallP s n) (by rintro ⟨h1, h2, h3⟩; have := h3 i (by omega); omega)).symm), ((Chg.refl [] w).step0 h1 (by omega))⟩
  rw [show (decide ((bAt s i : Int) < (97 : Int))) = false from decide_eq_false q2]
  refine ops_run2 (l' := [(0, S s), (1, .int .i64 n), (4, .bool false), (5, .int .i64 ((i : Int))), (16, .bool false), (17, S s), (18, .int .i64 ((i : Int)))]) (by kernel_rfl) ?_
  refine ops_at (b := s) (i := (i : Int)) (kd := .i64) i (by kernel_rfl) (by kernel_rfl) (by kernel_rfl) (by kernel_rfl) (by kernel_rfl) (by omega) (by omega) ?_
  have r2 := bAt_range s i
  refine ops_run2 (l' := [(0, S s), (1, .int .i64 n), (4, .bool false), (5, .int .i64 ((i : Int))), (21, .bool (decide ((bAt s i : Int) > (122 : Int))))]) (by kernel_rfl) ?_
  refine ops_nil (nx_seq ?_)
  refine at_ifp ((bAt s i : Int) > (122 : Int)) (by kernel_rfl) (fun q3 => ?_) (fun q3 => ?_)
  refine at_seq (at_region ?_)
  refine ops_run1 (l' := [(0, S s), (1, .int .i64 n), (4, .bool false), (5, .int .i64 ((i : Int)))]) (by kernel_rfl) ?_
  refine ops_nil (nx_seq ?_)
  refine at_ret (rs := [.tmp 4]) (vs := [.bool false]) rfl (by kernel_rfl) ?_
  exact ⟨_, rfl, (congrArg Value.bool (decide_eq_false (p := smallP s n) (by rintro ⟨h1, h2, h3⟩; have := h3 i (by omega); omega)).symm), ((Chg.refl [] w).step0 h1 (by omega))⟩
  refine at_skip (nx_blk (nx_seq (at_region ?_)))
  refine ops_run1 (l' := [(0, S s), (1, .int .i64 n), (4, .bool false), (5, .int .i64 ((i : Int))), (10, .int .i64 ((i : Int)))]) (by kernel_rfl) ?_
  refine ops_add (a := (i : Int)) (b := 1) (kd := .i64) (by kernel_rfl) (by kernel_rfl) (by kernel_rfl) (by kernel_rfl) (show (-9223372036854775808 : Int) ≤ ((i : Int)) + 1 by omega) (show ((i : Int)) + 1 ≤ (9223372036854775807 : Int) by omega) ?_
  refine ops_run1 (l' := [(0, S s), (1, .int .i64 n), (4, .bool false), (5, .int .i64 (((i : Int)) + 1))]) (by kernel_rfl) ?_
  refine ops_nil ?_
  refine nx_round ((i) + 1) (proj_sub [0, 1, 4, 5] (by kernel_rfl)) ⟨((Chg.refl [] w).step0 h1 (by omega)), (show ((i) + 1) ≤ s.length by first | omega | (simp only [List.length_append, List.length_cons, List.length_nil, List.length_take, List.length_drop, List.length_map]; omega)), (show ∀ j, j < ((i) + 1) → 97 ≤ bAt s j ∧ bAt s j ≤ 122 by exact fun j hj => if e : j = i then (by rw [e]; omega) else hall j (by omega))⟩ (show s.length - ((i) + 1) < s.length - i by omega)
  refine at_exit (ex_seq (ex_inv (ex_here (nx_seq (at_seq (at_region ?_))))))
  refine ops_run4 (l' := [(0, S s), (1, .int .i64 n), (4, .bool false), (25, .bool (decide (((s.length : Int) : Int) ≥ (1 : Int))))]) (by kernel_rfl) ?_
  by_cases q4 : ((s.length : Int) : Int) ≥ (1 : Int)
  rw [show (decide (((s.length : Int) : Int) ≥ (1 : Int))) = true from decide_eq_true q4]
  refine ops_run6 (l' := [(4, .bool (decide (((s.length : Int) : Int) ≤ (n : Int))))]) (by kernel_rfl) ?_
  refine ops_nil (nx_seq ?_)
  refine at_ret (rs := [.tmp 4]) (vs := [.bool (decide (((s.length : Int) : Int) ≤ (n : Int)))]) rfl (by kernel_rfl) ?_
  exact ⟨_, rfl, (congrArg Value.bool (decide_eq_decide.2 (show (((s.length : Int) : Int) ≤ (n : Int)) ↔ (smallP s n) by exact ⟨fun h => ⟨by omega, h, fun j hj => hall j (by omega)⟩, fun h => h.2.1⟩))), ((Chg.refl [] w).step0 h1 (by omega))⟩
  rw [show (decide (((s.length : Int) : Int) ≥ (1 : Int))) = false from decide_eq_false q4]
  refine ops_run6 (l' := [(4, .bool false)]) (by kernel_rfl) ?_
  refine ops_nil (nx_seq ?_)
  refine at_ret (rs := [.tmp 4]) (vs := [.bool false]) rfl (by kernel_rfl) ?_
  exact ⟨_, rfl, (congrArg Value.bool (decide_eq_false (p := smallP s n) (by rintro ⟨h1, h2, h3⟩; omega)).symm), ((Chg.refl [] w).step0 h1 (by omega))⟩
theorem digits_ok (n : Int) (h0 : -9223372036854775808 ≤ n) (h1 : n ≤ 9223372036854775807) (w : World) (hg : Gl w) : Rt Tryd.prog 94 #[.int .i64 n] w fun v w' => OwnB w' w.heap.size v (Lib.itoa n) ∧ Chg [] w.heap.size w w' := by
  have hgs := hg.size
  have hlen := itoa_len n h0 h1
  refine enter (n := 6) (args := [.int .i64 n]) Tryd.func94 rfl rfl (Nat.le_of_ble_eq_true (by kernel_rfl)) ?_
  refine at_seq (at_region ?_)
  refine ops_run1 (l' := [(0, .int .i64 n), (2, .slice none 0 0)]) (by kernel_rfl) ?_
  refine ops_nil (nx_seq (at_seq (at_region ?_)))
  refine ops_run1 (l' := [(2, .slice none 0 0), (3, .int .i64 n)]) (by kernel_rfl) ?_
  refine ops_callr (by kernel_rfl) (by kernel_rfl) (by kernel_rfl) (strconv_FormatInt_ok (n) (by omega) (by omega) w hg) ?_
  rintro _ w1 ⟨rfl, c1⟩
  have z1 := c1.size
  refine ops_toB (b := Lib.itoa (n)) (by kernel_rfl) (by kernel_rfl) (by kernel_rfl) (by kernel_rfl) (by kernel_rfl) (by first | omega | (simp only [List.length_append, List.length_cons, List.length_nil, List.length_take, List.length_drop, List.length_map]; omega)) (fun v1 w2 h1 c2 z2 => ?_)
  have z3 := c2.size
  refine ops_run1 (l' := [(2, v1)]) (by kernel_rfl) ?_
  refine ops_nil (nx_seq ?_)
  refine at_ret (rs := [.tmp 2]) (vs := [v1]) rfl (by kernel_rfl) ?_
  exact ⟨_, rfl, h1.down (by omega), (((Chg.refl [] w).step0 c1 (by omega)).step0 c2 (by omega))⟩
theorem rPut_ok {ls : List Bytes} {w : World} {H : Nat} {v : Value} (hv : BBs w H v ls) (hH : H ≤ w.heap.size) (hn : ls.length ≤ 100000) (hsh : Short ls) (hg : Gl w) : Rt Tryd.prog 95 #[v] w fun u w' => OwnB w' w.heap.size u (putL ls) ∧ Chg [] w.heap.size w w' := by
  have hgs := hg.size
  refine enter (n := 25) (args := [v]) Tryd.func95 rfl rfl (Nat.le_of_ble_eq_true (by kernel_rfl)) ?_
  refine at_seq (at_region ?_)
  refine ops_run1 (l' := [(0, v), (2, .slice none 0 0)]) (by kernel_rfl) ?_
  refine ops_nil (nx_seq (at_seq (at_region ?_)))
  refine ops_run1 (l' := [(0, v), (2, .slice none 0 0), (3, .slice none 0 0)]) (by kernel_rfl) ?_
  refine ops_nil (nx_seq (at_seq (at_seq (at_region ?_))))
  refine ops_run1 (l' := [(2, .slice none 0 0), (3, .slice none 0 0), (6, v)]) (by kernel_rfl) ?_
  obtain ⟨vs1, lo1, hi1, h1, h2, h3⟩ := id hv
  refine ops_len (e := 22) (by kernel_rfl) (by kernel_rfl) (by kernel_rfl) (by kernel_rfl) h2 ?_
  refine ops_run1 (l' := [(2, .slice none 0 0), (3, .slice none 0 0), (6, v), (7, .int .i64 ((ls.length : Int))), (8, .int .i64 0)]) (by kernel_rfl) ?_
  refine ops_nil (nx_seq (at_block ?_))
  refine at_loop (X := Value × Bytes × Nat) (fun x_ => [(2, .slice none 0 0), (3, x_.1), (6, v), (7, .int .i64 ((ls.length : Int))), (8, .int .i64 ((x_.2.2 : Int)))]) (fun x_ W1 => Chg [] (w.heap.size) w W1 ∧ OwnB W1 w.heap.size x_.1 x_.2.1 ∧ (x_.2.2 ≤ ls.length) ∧ (x_.2.1 = putL (ls.take x_.2.2)) ∧ (x_.2.1.length ≤ x_.2.2 * 1000030)) (fun x_ => ls.length - x_.2.2) (.slice none 0 0, [], 0) (proj_sub [2, 3, 6, 7, 8] (by kernel_rfl)) ⟨(Chg.refl [] w), Own.nil _ _ _ (by omega), (show 0 ≤ ls.length by first | omega | (simp only [List.length_append, List.length_cons, List.length_nil, List.length_take, List.length_drop, List.length_map]; omega)), (show [] = putL (ls.take 0) by rfl), (show [].length ≤ 0 * 1000030 by first | omega | (simp only [List.length_append, List.length_cons, List.length_nil, List.length_take, List.length_drop, List.length_map]; omega))⟩ ?_
  rintro ⟨out, o, k⟩ w1 ⟨h4, h5, h6, h7, h8⟩
  replace h4 : Chg [] (w.heap.size) w w1 := h4
  replace h5 : OwnB w1 w.heap.size out o := h5
  replace h6 : (k ≤ ls.length) := h6
  replace h7 : (o = putL (ls.take k)) := h7
  replace h8 : (o.length ≤ k * 1000030) := h8
  have z1 := h4.size
  have hod := h7
  refine at_seq (at_region ?_)
  refine ops_run1 (l' := [(2, .slice none 0 0), (3, out), (6, v), (7, .int .i64 ((ls.length : Int))), (8, .int .i64 ((k : Int))), (9, .bool (decide (((k : Int) : Int) < ((ls.length : Int) : Int))))]) (by kernel_rfl) ?_
  refine ops_nil (nx_seq (at_seq ?_))
  refine at_ifp (((k : Int) : Int) < ((ls.length : Int) : Int)) (by kernel_rfl) (fun q1 => ?_) (fun q1 => ?_)
  refine at_skip (nx_seq (at_seq (at_block (at_seq (at_region ?_)))))
  have h9 := hv.keep0 h4 (by omega)
  obtain ⟨vs2, lo2, hi2, h10, h11, h12⟩ := id h9
  refine ops_idx (e := 22) (i := (k : Int)) (kd := .i64) k (by kernel_rfl) (by kernel_rfl) (by kernel_rfl) (by kernel_rfl) (by kernel_rfl) (by kernel_rfl) h11 (by omega) (by first | omega | (simp only [List.length_append, List.length_cons, List.length_nil, List.length_take, List.length_drop, List.length_map]; omega)) (fun a1 h13 => ?_)
  obtain ⟨v1, lo3, hi3, h14, h15, h16⟩ := bb_cell (j := k) h13 h12 (by first | omega | (simp only [List.length_append, List.length_cons, List.length_nil, List.length_take, List.length_drop, List.length_map]; omega))
  refine ops_load (by kernel_rfl) (by kernel_rfl) (by kernel_rfl) (by kernel_rfl) h14 ?_
  have hxl := hsh (ls.getD k []) (getD_mem (by omega))
  have hil := itoa_len ((ls.getD k []).length : Int) (by omega) (by omega)
  refine ops_run1 (l' := [(2, .slice none 0 0), (3, out), (5, v1), (6, v), (7, .int .i64 ((ls.length : Int))), (8, .int .i64 ((k : Int)))]) (by kernel_rfl) ?_
  refine ops_nil (nx_seq (at_seq (at_region ?_)))
  refine ops_run2 (l' := [(2, .slice none 0 0), (3, out), (5, v1), (6, v), (7, .int .i64 ((ls.length : Int))), (8, .int .i64 ((k : Int))), (12, out), (13, v1)]) (by kernel_rfl) ?_
  refine ops_len (e := 5) (by kernel_rfl) (by kernel_rfl) (by kernel_rfl) (by kernel_rfl) h15 ?_
  have h17 := hg.keep0 h4 (by omega)
  refine ops_callr (by kernel_rfl) (by kernel_rfl) (by kernel_rfl) (strconv_Itoa_ok (((((ls.getD k []).length) : Nat) : Int)) (by omega) (by omega) w1 h17) ?_
  rintro _ w2 ⟨rfl, c1⟩
  have z2 := c1.size
  refine ops_cat (a := Lib.itoa (((((ls.getD k []).length) : Nat) : Int))) (b := [58]) (by kernel_rfl) (by kernel_rfl) (by kernel_rfl) (by kernel_rfl) (by first | omega | (simp only [List.length_append, List.length_cons, List.length_nil, List.length_take, List.length_drop, List.length_map]; omega)) ?_
  have h18 := h5.keep c1 (by omega) (fun _ _ _ => by simp)
  refine ops_appendBS (e := 5) (by_ := 1) (l1 := o) (l2 := ((Lib.itoa (((((ls.getD k []).length) : Nat) : Int))) ++ [58])) (by kernel_rfl) (by kernel_rfl) (by kernel_rfl) (by kernel_rfl) (by kernel_rfl) (by kernel_rfl) (by kernel_rfl) h18 (by first | omega | (simp only [List.length_append, List.length_cons, List.length_nil, List.length_take, List.length_drop, List.length_map]; omega)) (fun v2 w3 h19 c2 c3 => ?_)
  have z3 := c2.size
  refine ops_run1 (l' := [(2, .slice none 0 0), (3, v2), (5, v1), (6, v), (7, .int .i64 ((ls.length : Int))), (8, .int .i64 ((k : Int)))]) (by kernel_rfl) ?_
  refine ops_nil (nx_seq (at_region ?_))
  refine ops_run2 (l' := [(2, .slice none 0 0), (3, v2), (6, v), (7, .int .i64 ((ls.length : Int))), (8, .int .i64 ((k : Int))), (18, v2), (19, v1)]) (by kernel_rfl) ?_
  have h21 := h15.keep0 c1 (by omega)
  have h22 := h21.keep0 c2 (by omega)
  refine ops_appendB (e := 5) (by_ := 1) (l1 := (o ++ ((Lib.itoa (((((ls.getD k []).length) : Nat) : Int))) ++ [58]))) (l2 := (ls.getD k [])) (by kernel_rfl) (by kernel_rfl) (by kernel_rfl) (by kernel_rfl) (by kernel_rfl) (by kernel_rfl) (by kernel_rfl) h19 h22 (by first | omega | (simp only [List.length_append, List.length_cons, List.length_nil, List.length_take, List.length_drop, List.length_map]; omega)) (fun v3 w4 h20 c4 c5 => ?_)
  have z4 := c4.size
  refine ops_lit (e := 5) (sz := 1) [.int .u8 44] (by kernel_rfl) (by kernel_rfl) (by kernel_rfl) rfl (by decide) (fun v4 w5 h23 c6 z5 => ?_)
  have z6 := c6.size
  replace h23 : OwnB w5 (w4.heap.size) v4 [44] := h23.1
  have h24 := h20.keep c6 (by omega) (fun _ _ _ => by simp)
  refine ops_appendB (e := 5) (by_ := 1) (l1 := ((o ++ ((Lib.itoa (((((ls.getD k []).length) : Nat) : Int))) ++ [58])) ++ (ls.getD k []))) (l2 := [44]) (by kernel_rfl) (by kernel_rfl) (by kernel_rfl) (by kernel_rfl) (by kernel_rfl) (by kernel_rfl) (by kernel_rfl) h24 h23.sl (by first | omega | (simp only [List.length_append, List.length_cons, List.length_nil, List.length_take, List.length_drop, List.length_map]; omega)) (fun v5 w6 h25 c7 c8 => ?_)
  have z7 := c7.size
  refine ops_run1 (l' := [(2, .slice none 0 0), (3, v5), (6, v), (7, .int .i64 ((ls.length : Int))), (8, .int .i64 ((k : Int)))]) (by kernel_rfl) ?_
  refine ops_nil (nx_blk (nx_seq (at_region ?_)))
  refine ops_add (a := (k : Int)) (b := 1) (kd := .i64) (by kernel_rfl) (by kernel_rfl) (by kernel_rfl) (by kernel_rfl) (show (-9223372036854775808 : Int) ≤ ((k : Int)) + 1 by omega) (show ((k : Int)) + 1 ≤ (9223372036854775807 : Int) by omega) ?_
  refine ops_run1 (l' := [(2, .slice none 0 0), (3, v5), (6, v), (7, .int .i64 ((ls.length : Int))), (8, .int .i64 (((k : Int)) + 1))]) (by kernel_rfl) ?_
  refine ops_nil ?_
  have hstep := (put_step' (by omega) hod)
  refine nx_round (v5, putL (ls.take (k + 1)), (k) + 1) (proj_sub [2, 3, 6, 7, 8] (by kernel_rfl)) ⟨(((((((Chg.refl [] w).step0 h4 (by omega)).step0 c1 (by omega)).step0 c2 (by omega)).step0 c4 (by omega)).step0 c6 (by omega)).step0 c7 (by omega)), (hstep ▸ h25), (show ((k) + 1) ≤ ls.length by first | omega | (simp only [List.length_append, List.length_cons, List.length_nil, List.length_take, List.length_drop, List.length_map]; omega)), (show (putL (ls.take (k + 1))) = putL (ls.take ((k) + 1)) by rfl), (show (putL (ls.take (k + 1))).length ≤ ((k) + 1) * 1000030 by rw [← put_step' (by omega) hod]; simp only [List.length_append, List.length_cons, List.length_nil]; omega)⟩ (show ls.length - ((k) + 1) < ls.length - k by omega)
  refine at_exit (ex_seq (ex_inv (ex_here (nx_seq (at_seq (at_region ?_))))))
  refine ops_run2 (l' := [(2, out)]) (by kernel_rfl) ?_
  refine ops_nil (nx_seq ?_)
  refine at_ret (rs := [.tmp 2]) (vs := [out]) rfl (by kernel_rfl) ?_
  have e9 : k = ls.length := by omega
  rw [hod, e9, List.take_length] at h5
  exact ⟨_, rfl, h5, (((Chg.refl [] w).to (B' := w.heap.size) (r' := []) (by omega) (by simp)).step0 h4 (by omega))⟩
theorem put_ok {ls : List Bytes} {w : World} {H : Nat} {v : Value} (hv : BBs w H v ls) (hH : H ≤ w.heap.size) (hn : ls.length ≤ 100000) (hsh : Short ls) (hg : Gl w) : Rt Tryd.prog 31 #[v] w fun u w' => OwnB w' w.heap.size u (putL ls) ∧ Chg [] w.heap.size w w' := by
  have hgs := hg.size
  refine enter (n := 25) (args := [v]) Tryd.func31 rfl rfl (Nat.le_of_ble_eq_true (by kernel_rfl)) ?_
  refine at_seq (at_region ?_)
  refine ops_run1 (l' := [(0, v), (2, .slice none 0 0)]) (by kernel_rfl) ?_
  refine ops_nil (nx_seq (at_seq (at_region ?_)))
  refine ops_run1 (l' := [(0, v), (2, .slice none 0 0), (3, .slice none 0 0)]) (by kernel_rfl) ?_
  refine ops_nil (nx_seq (at_seq (at_seq (at_region ?_))))
  refine ops_run1 (l' := [(2, .slice none 0 0), (3, .slice none 0 0), (6, v)]) (by kernel_rfl) ?_
  obtain ⟨vs1, lo1, hi1, h1, h2, h3⟩ := id hv
  refine ops_len (e := 22) (by kernel_rfl) (by kernel_rfl) (by kernel_rfl) (by kernel_rfl) h2 ?_
  refine ops_run1 (l' := [(2, .slice none 0 0), (3, .slice none 0 0), (6, v), (7, .int .i64 ((ls.length : Int))), (8, .int .i64 0)]) (by kernel_rfl) ?_
  refine ops_nil (nx_seq (at_block ?_))
  refine at_loop (X := Value × Bytes × Nat) (fun x_ => [(2, .slice none 0 0), (3, x_.1), (6, v), (7, .int .i64 ((ls.length : Int))), (8, .int .i64 ((x_.2.2 : Int)))]) (fun x_ W1 => Chg [] (w.heap.size) w W1 ∧ OwnR W1 w.heap.size 5 x_.1 x_.2.1 ∧ (x_.2.2 ≤ ls.length) ∧ (x_.2.1 = putL (ls.take x_.2.2)) ∧ (x_.2.1.length ≤ x_.2.2 * 1000030)) (fun x_ => ls.length - x_.2.2) (.slice none 0 0, [], 0) (proj_sub [2, 3, 6, 7, 8] (by kernel_rfl)) ⟨(Chg.refl [] w), OwnR.nil _ _ _, (show 0 ≤ ls.length by first | omega | (simp only [List.length_append, List.length_cons, List.length_nil, List.length_take, List.length_drop, List.length_map]; omega)), (show [] = putL (ls.take 0) by rfl), (show [].length ≤ 0 * 1000030 by first | omega | (simp only [List.length_append, List.length_cons, List.length_nil, List.length_take, List.length_drop, List.length_map]; omega))⟩ ?_
  rintro ⟨out, o, k⟩ w1 ⟨h4, h5, h6, h7, h8⟩
  replace h4 : Chg [] (w.heap.size) w w1 := h4
  replace h5 : OwnR w1 w.heap.size 5 out o := h5
  replace h6 : (k ≤ ls.length) := h6
  replace h7 : (o = putL (ls.take k)) := h7
  replace h8 : (o.length ≤ k * 1000030) := h8
  have z1 := h4.size
  have hod := h7
  refine at_seq (at_region ?_)
  refine ops_run1 (l' := [(2, .slice none 0 0), (3, out), (6, v), (7, .int .i64 ((ls.length : Int))), (8, .int .i64 ((k : Int))), (9, .bool (decide (((k : Int) : Int) < ((ls.length : Int) : Int))))]) (by kernel_rfl) ?_
  refine ops_nil (nx_seq (at_seq ?_))
  refine at_ifp (((k : Int) : Int) < ((ls.length : Int) : Int)) (by kernel_rfl) (fun q1 => ?_) (fun q1 => ?_)
  refine at_skip (nx_seq (at_seq (at_block (at_seq (at_region ?_)))))
  have h9 := hv.keep0 h4 (by omega)
  obtain ⟨vs2, lo2, hi2, h10, h11, h12⟩ := id h9
  refine ops_idx (e := 22) (i := (k : Int)) (kd := .i64) k (by kernel_rfl) (by kernel_rfl) (by kernel_rfl) (by kernel_rfl) (by kernel_rfl) (by kernel_rfl) h11 (by omega) (by first | omega | (simp only [List.length_append, List.length_cons, List.length_nil, List.length_take, List.length_drop, List.length_map]; omega)) (fun a1 h13 => ?_)
  obtain ⟨v1, lo3, hi3, h14, h15, h16⟩ := bb_cell (j := k) h13 h12 (by first | omega | (simp only [List.length_append, List.length_cons, List.length_nil, List.length_take, List.length_drop, List.length_map]; omega))
  refine ops_load (by kernel_rfl) (by kernel_rfl) (by kernel_rfl) (by kernel_rfl) h14 ?_
  have hxl := hsh (ls.getD k []) (getD_mem (by omega))
  have hil := itoa_len ((ls.getD k []).length : Int) (by omega) (by omega)
  refine ops_run1 (l' := [(2, .slice none 0 0), (3, out), (5, v1), (6, v), (7, .int .i64 ((ls.length : Int))), (8, .int .i64 ((k : Int)))]) (by kernel_rfl) ?_
  refine ops_nil (nx_seq (at_seq (at_region ?_)))
  refine ops_run2 (l' := [(2, .slice none 0 0), (3, out), (5, v1), (6, v), (7, .int .i64 ((ls.length : Int))), (8, .int .i64 ((k : Int))), (12, out), (13, v1)]) (by kernel_rfl) ?_
  refine ops_len (e := 5) (by kernel_rfl) (by kernel_rfl) (by kernel_rfl) (by kernel_rfl) h15 ?_
  have il1 := itoa_len (((((ls.getD k []).length) : Nat) : Int)) (by omega) (by omega)
  have h18 := hg.keep0 h4 (by omega)
  refine ops_callr (by kernel_rfl) (by kernel_rfl) (by kernel_rfl) (strconv_AppendInt_ok h5 (by omega) (by omega) h18 (((((ls.getD k []).length) : Nat) : Int)) (by omega) (by omega) (by first | omega | (simp only [List.length_append, List.length_cons, List.length_nil, List.length_take, List.length_drop, List.length_map]; omega))) ?_
  rintro v2 w2 ⟨h17, c1⟩
  have z2 := c1.size
  refine ops_lit (e := 5) (sz := 1) [.int .u8 58] (by kernel_rfl) (by kernel_rfl) (by kernel_rfl) rfl (by decide) (fun v3 w3 h19 c2 z3 => ?_)
  have z4 := c2.size
  replace h19 : OwnB w3 (w2.heap.size) v3 [58] := h19.1
  have h20 := h17.keep0 c2
  refine ops_appendR (e := 5) (l1 := (o ++ Lib.itoa (((((ls.getD k []).length) : Nat) : Int)))) (l2 := [58]) (by kernel_rfl) (by kernel_rfl) (by kernel_rfl) (by kernel_rfl) (by kernel_rfl) (by kernel_rfl) h20 h19.sl (by omega) (by first | omega | (simp only [List.length_append, List.length_cons, List.length_nil, List.length_take, List.length_drop, List.length_map]; omega)) (fun v4 w4 h21 c3 => ?_)
  have z5 := c3.size
  refine ops_run1 (l' := [(2, .slice none 0 0), (3, v4), (5, v1), (6, v), (7, .int .i64 ((ls.length : Int))), (8, .int .i64 ((k : Int)))]) (by kernel_rfl) ?_
  refine ops_nil (nx_seq (at_region ?_))
  refine ops_run2 (l' := [(2, .slice none 0 0), (3, v4), (6, v), (7, .int .i64 ((ls.length : Int))), (8, .int .i64 ((k : Int))), (18, v4), (19, v1)]) (by kernel_rfl) ?_
  have h23 := h15.keep0 c1 (by omega)
  have h24 := h23.keep0 c2 (by omega)
  have h25 := h24.keep0 c3 (by omega)
  refine ops_appendR (e := 5) (l1 := ((o ++ Lib.itoa (((((ls.getD k []).length) : Nat) : Int))) ++ [58])) (l2 := (ls.getD k [])) (by kernel_rfl) (by kernel_rfl) (by kernel_rfl) (by kernel_rfl) (by kernel_rfl) (by kernel_rfl) h21 h25 (by omega) (by first | omega | (simp only [List.length_append, List.length_cons, List.length_nil, List.length_take, List.length_drop, List.length_map]; omega)) (fun v5 w5 h22 c5 => ?_)
  have z6 := c5.size
  refine ops_lit (e := 5) (sz := 1) [.int .u8 44] (by kernel_rfl) (by kernel_rfl) (by kernel_rfl) rfl (by decide) (fun v6 w6 h26 c7 z7 => ?_)
  have z8 := c7.size
  replace h26 : OwnB w6 (w5.heap.size) v6 [44] := h26.1
  have h27 := h22.keep0 c7
  refine ops_appendR (e := 5) (l1 := (((o ++ Lib.itoa (((((ls.getD k []).length) : Nat) : Int))) ++ [58]) ++ (ls.getD k []))) (l2 := [44]) (by kernel_rfl) (by kernel_rfl) (by kernel_rfl) (by kernel_rfl) (by kernel_rfl) (by kernel_rfl) h27 h26.sl (by omega) (by first | omega | (simp only [List.length_append, List.length_cons, List.length_nil, List.length_take, List.length_drop, List.length_map]; omega)) (fun v7 w7 h28 c8 => ?_)
  have z9 := c8.size
  refine ops_run1 (l' := [(2, .slice none 0 0), (3, v7), (6, v), (7, .int .i64 ((ls.length : Int))), (8, .int .i64 ((k : Int)))]) (by kernel_rfl) ?_
  refine ops_nil (nx_blk (nx_seq (at_region ?_)))
  refine ops_add (a := (k : Int)) (b := 1) (kd := .i64) (by kernel_rfl) (by kernel_rfl) (by kernel_rfl) (by kernel_rfl) (show (-9223372036854775808 : Int) ≤ ((k : Int)) + 1 by omega) (show ((k : Int)) + 1 ≤ (9223372036854775807 : Int) by omega) ?_
  refine ops_run1 (l' := [(2, .slice none 0 0), (3, v7), (6, v), (7, .int .i64 ((ls.length : Int))), (8, .int .i64 (((k : Int)) + 1))]) (by kernel_rfl) ?_
  refine ops_nil ?_
  have hstep := (put_step (by omega) hod)
  refine nx_round (v7, putL (ls.take (k + 1)), (k) + 1) (proj_sub [2, 3, 6, 7, 8] (by kernel_rfl)) ⟨((((((((Chg.refl [] w).step0 h4 (by omega)).step0 c1 (by omega)).step0 c2 (by omega)).step0 c3 (by omega)).step0 c5 (by omega)).step0 c7 (by omega)).step0 c8 (by omega)), (hstep ▸ h28), (show ((k) + 1) ≤ ls.length by first | omega | (simp only [List.length_append, List.length_cons, List.length_nil, List.length_take, List.length_drop, List.length_map]; omega)), (show (putL (ls.take (k + 1))) = putL (ls.take ((k) + 1)) by rfl), (show (putL (ls.take (k + 1))).length ≤ ((k) + 1) * 1000030 by rw [← put_step (by omega) hod]; simp only [List.length_append, List.length_cons, List.length_nil]; omega)⟩ (show ls.length - ((k) + 1) < ls.length - k by omega)
  refine at_exit (ex_seq (ex_inv (ex_here (nx_seq (at_seq (at_region ?_))))))
  refine ops_run2 (l' := [(2, out)]) (by kernel_rfl) ?_
  refine ops_nil (nx_seq ?_)
  refine at_ret (rs := [.tmp 2]) (vs := [out]) rfl (by kernel_rfl) ?_
  have e9 : k = ls.length := by omega
  have h9 := h5.own (by omega : w.heap.size ≤ w1.heap.size)
  rw [hod, e9, List.take_length] at h9
  exact ⟨_, rfl, h9, (((Chg.refl [] w).to (B' := w.heap.size) (r' := []) (by omega) (by simp)).step0 h4 (by omega))⟩
theorem envelope_ok (fr : Bytes) (to : List Bytes) (at_ : Int) {w : World} {lo hi : Nat} {v : Value} (hv : Ss w lo hi v to) (hf : fr.length < 4611686018427387904) (ht : ∀ s, s ∈ to → s.length < 4611686018427387904) : Pu Tryd.prog 104 #[.agg #[S fr, v, .int .i64 at_]] w (.bool (decide (envP fr to at_))) := by
  have hhi := hv.hi_le
  have hln := hv.len_le
  refine enter (n := 36) (args := [.agg #[S fr, v, .int .i64 at_]]) Tryd.func104 rfl rfl (Nat.le_of_ble_eq_true (by kernel_rfl)) ?_
  refine at_seq (at_region ?_)
  refine ops_box (cs := [S fr, v, .int .i64 at_]) (by kernel_rfl) (by kernel_rfl) (by kernel_rfl) (fun b1 w1 e1 h1 c1 z1 => ?_)
  have z2 := c1.size
  refine ops_run1 (l' := [(1, .pointer (some ⟨b1, 0, none⟩)), (2, .bool false)]) (by kernel_rfl) ?_
  refine ops_nil (nx_seq (at_seq (at_seq (at_region ?_))))
  refine ops_run1 (l' := [(1, .pointer (some ⟨b1, 0, none⟩)), (2, .bool false), (5, .pointer (some ⟨b1, 0, none⟩))]) (by kernel_rfl) ?_
  refine ops_loadB (i := 0) (v := S fr) (by kernel_rfl) (by kernel_rfl) (by kernel_rfl) (by kernel_rfl) h1 (by kernel_rfl) ?_
  refine ops_neS (a := fr) (b := []) (by kernel_rfl) (by kernel_rfl) (by kernel_rfl) (by kernel_rfl) ?_
  refine ops_run1 (l' := [(1, .pointer (some ⟨b1, 0, none⟩)), (2, .bool false), (8, .bool (decide ((fr : Bytes) ≠ [])))]) (by kernel_rfl) ?_
  by_cases q1 : (fr : Bytes) ≠ []
  rw [show (decide ((fr : Bytes) ≠ [])) = true from decide_eq_true q1]
  have l1 := List.length_pos_iff.2 q1
  refine ops_run1 (l' := [(1, .pointer (some ⟨b1, 0, none⟩)), (2, .bool false), (8, .bool true), (9, .pointer (some ⟨b1, 0, none⟩))]) (by kernel_rfl) ?_
  refine ops_loadB (i := 0) (v := S fr) (by kernel_rfl) (by kernel_rfl) (by kernel_rfl) (by kernel_rfl) h1 (by kernel_rfl) ?_
  refine ops_callr (by kernel_rfl) (by kernel_rfl) (by kernel_rfl) (rMailbox_ok fr (by omega) w1) ?_
  rintro _ w2 ⟨rfl, c2⟩
  have z3 := c2.size
  refine ops_run3 (l' := [(1, .pointer (some ⟨b1, 0, none⟩)), (2, .bool false), (14, .bool (!(decide (mailboxP fr))))]) (by kernel_rfl) ?_
  by_cases q2 : mailboxP fr
  rw [show (decide (mailboxP fr)) = true from decide_eq_true q2]
  refine ops_run1 (l' := [(1, .pointer (some ⟨b1, 0, none⟩)), (2, .bool false), (14, .bool false), (15, .pointer (some ⟨b1, 1, none⟩))]) (by kernel_rfl) ?_
  have h2 := h1.keep0 c2 (by omega)
  refine ops_loadB (i := 1) (v := v) (by kernel_rfl) (by kernel_rfl) (by kernel_rfl) (by kernel_rfl) h2 (by kernel_rfl) ?_
  have h3 := hv.keep0 c1 (by omega)
  have h4 := h3.keep0 c2 (by omega)
  refine ops_len (e := 9) (by kernel_rfl) (by kernel_rfl) (by kernel_rfl) (by kernel_rfl) h4 ?_
  refine ops_run3 (l' := [(1, .pointer (some ⟨b1, 0, none⟩)), (2, .bool false), (20, .bool (decide (((to.length : Int) : Int) < (1 : Int))))]) (by kernel_rfl) ?_
  by_cases q3 : ((to.length : Int) : Int) < (1 : Int)
  rw [show (decide (((to.length : Int) : Int) < (1 : Int))) = true from decide_eq_true q3]
  refine ops_run4 (l' := [(1, .pointer (some ⟨b1, 0, none⟩)), (2, .bool false), (24, .bool true)]) (by kernel_rfl) ?_
  refine ops_nil (nx_seq ?_)
  refine at_ift (by kernel_rfl) ?_
  refine at_seq (at_region ?_)
  refine ops_run1 (l' := [(1, .pointer (some ⟨b1, 0, none⟩)), (2, .bool false)]) (by kernel_rfl) ?_
  refine ops_nil (nx_seq ?_)
  refine at_ret (rs := [.tmp 2]) (vs := [.bool false]) rfl (by kernel_rfl) ?_
  exact ⟨_, rfl, (congrArg Value.bool (decide_eq_false (p := envP fr to at_) (by rintro ⟨g1, g2, g3, g4⟩; first | omega | (rcases g1 with g1 | g1 <;> contradiction) | (have := g4 (to.getD k []) (getD_mem (by omega)); contradiction))).symm), (((Chg.refl [] w).step0 c1 (by omega)).step0 c2 (by omega))⟩
  rw [show (decide (((to.length : Int) : Int) < (1 : Int))) = false from decide_eq_false q3]
  refine ops_run1 (l' := [(1, .pointer (some ⟨b1, 0, none⟩)), (2, .bool false), (20, .bool false), (21, .pointer (some ⟨b1, 2, none⟩))]) (by kernel_rfl) ?_
  refine ops_loadB (i := 2) (v := .int .i64 at_) (by kernel_rfl) (by kernel_rfl) (by kernel_rfl) (by kernel_rfl) h2 (by kernel_rfl) ?_
  refine ops_run2 (l' := [(1, .pointer (some ⟨b1, 0, none⟩)), (2, .bool false), (24, .bool (decide ((at_ : Int) < (0 : Int))))]) (by kernel_rfl) ?_
  refine ops_nil (nx_seq ?_)
  refine at_ifp ((at_ : Int) < (0 : Int)) (by kernel_rfl) (fun q4 => ?_) (fun q4 => ?_)
  refine at_seq (at_region ?_)
  refine ops_run1 (l' := [(1, .pointer (some ⟨b1, 0, none⟩)), (2, .bool false)]) (by kernel_rfl) ?_
  refine ops_nil (nx_seq ?_)
  refine at_ret (rs := [.tmp 2]) (vs := [.bool false]) rfl (by kernel_rfl) ?_
  exact ⟨_, rfl, (congrArg Value.bool (decide_eq_false (p := envP fr to at_) (by rintro ⟨g1, g2, g3, g4⟩; first | omega | (rcases g1 with g1 | g1 <;> contradiction) | (have := g4 (to.getD k []) (getD_mem (by omega)); contradiction))).symm), (((Chg.refl [] w).step0 c1 (by omega)).step0 c2 (by omega))⟩
  refine at_skip (nx_seq (at_seq (at_seq (at_region ?_))))
  refine ops_run1 (l' := [(2, .bool false), (25, .pointer (some ⟨b1, 1, none⟩))]) (by kernel_rfl) ?_
  refine ops_loadB (i := 1) (v := v) (by kernel_rfl) (by kernel_rfl) (by kernel_rfl) (by kernel_rfl) h2 (by kernel_rfl) ?_
  refine ops_len (e := 9) (by kernel_rfl) (by kernel_rfl) (by kernel_rfl) (by kernel_rfl) h4 ?_
  refine ops_run1 (l' := [(2, .bool false), (26, v), (27, .int .i64 ((to.length : Int))), (28, .int .i64 0)]) (by kernel_rfl) ?_
  refine ops_nil (nx_seq (at_block ?_))
  refine at_loop (X := Nat) (fun x_ => [(2, .bool false), (26, v), (27, .int .i64 ((to.length : Int))), (28, .int .i64 ((x_ : Int)))]) (fun x_ W1 => Chg [] (w2.heap.size) w2 W1 ∧ (x_ ≤ to.length) ∧ (∀ q, q < x_ → mailboxP (to.getD q []))) (fun x_ => to.length - x_) 0 (proj_sub [2, 26, 27, 28] (by kernel_rfl)) ⟨(Chg.refl [] w2), (show 0 ≤ to.length by first | omega | (simp only [List.length_append, List.length_cons, List.length_nil, List.length_take, List.length_drop, List.length_map]; omega)), (show ∀ q, q < 0 → mailboxP (to.getD q []) by intro q hq; omega)⟩ ?_
  rintro k w3 ⟨h5, h6, h7⟩
  replace h5 : Chg [] (w2.heap.size) w2 w3 := h5
  replace h6 : (k ≤ to.length) := h6
  replace h7 : (∀ q, q < k → mailboxP (to.getD q [])) := h7
  have z4 := h5.size
  have hall := h7
  refine at_seq (at_region ?_)
  refine ops_run1 (l' := [(2, .bool false), (26, v), (27, .int .i64 ((to.length : Int))), (28, .int .i64 ((k : Int))), (29, .bool (decide (((k : Int) : Int) < ((to.length : Int) : Int))))]) (by kernel_rfl) ?_
  refine ops_nil (nx_seq (at_seq ?_))
  refine at_ifp (((k : Int) : Int) < ((to.length : Int) : Int)) (by kernel_rfl) (fun q5 => ?_) (fun q5 => ?_)
  refine at_skip (nx_seq (at_seq (at_block (at_seq (at_region ?_)))))
  have h8 := h4.keep0 h5 (by omega)
  refine ops_idx (e := 9) (i := (k : Int)) (kd := .i64) k (by kernel_rfl) (by kernel_rfl) (by kernel_rfl) (by kernel_rfl) (by kernel_rfl) (by kernel_rfl) h8 (by omega) (by first | omega | (simp only [List.length_append, List.length_cons, List.length_nil, List.length_take, List.length_drop, List.length_map]; omega)) (fun a1 h9 => ?_)
  have h10 := cell_sAt (l := to) (j := k) h9 (by omega)
  refine ops_load (by kernel_rfl) (by kernel_rfl) (by kernel_rfl) (by kernel_rfl) h10 ?_
  have hpl := ht (to.getD k []) (getD_mem (by omega))
  refine ops_run1 (l' := [(2, .bool false), (4, S (to.getD k [])), (26, v), (27, .int .i64 ((to.length : Int))), (28, .int .i64 ((k : Int)))]) (by kernel_rfl) ?_
  refine ops_nil (nx_seq (at_seq (at_region ?_)))
  refine ops_run1 (l' := [(2, .bool false), (26, v), (27, .int .i64 ((to.length : Int))), (28, .int .i64 ((k : Int))), (32, S (to.getD k []))]) (by kernel_rfl) ?_
  refine ops_callr (by kernel_rfl) (by kernel_rfl) (by kernel_rfl) (rMailbox_ok (to.getD k []) (by omega) w3) ?_
  rintro _ w4 ⟨rfl, c3⟩
  have z5 := c3.size
  refine ops_run1 (l' := [(2, .bool false), (26, v), (27, .int .i64 ((to.length : Int))), (28, .int .i64 ((k : Int))), (34, .bool (!(decide (mailboxP (to.getD k [])))))]) (by kernel_rfl) ?_
  refine ops_nil (nx_seq ?_)
  refine at_ifn (mailboxP (to.getD k [])) (by kernel_rfl) (fun q6 => ?_) (fun q6 => ?_)
  refine at_seq (at_region ?_)
  refine ops_run1 (l' := [(2, .bool false), (26, v), (27, .int .i64 ((to.length : Int))), (28, .int .i64 ((k : Int)))]) (by kernel_rfl) ?_
  refine ops_nil (nx_seq ?_)
  refine at_ret (rs := [.tmp 2]) (vs := [.bool false]) rfl (by kernel_rfl) ?_
  exact ⟨_, rfl, (congrArg Value.bool (decide_eq_false (p := envP fr to at_) (by rintro ⟨g1, g2, g3, g4⟩; first | omega | (rcases g1 with g1 | g1 <;> contradiction) | (have := g4 (to.getD k []) (getD_mem (by omega)); contradiction))).symm), (((((Chg.refl [] w).step0 c1 (by omega)).step0 c2 (by omega)).step0 h5 (by omega)).step0 c3 (by omega))⟩
  refine at_skip (nx_blk (nx_seq (at_region ?_)))
  refine ops_add (a := (k : Int)) (b := 1) (kd := .i64) (by kernel_rfl) (by kernel_rfl) (by kernel_rfl) (by kernel_rfl) (show (-9223372036854775808 : Int) ≤ ((k : Int)) + 1 by omega) (show ((k : Int)) + 1 ≤ (9223372036854775807 : Int) by omega) ?_
  refine ops_run1 (l' := [(2, .bool false), (26, v), (27, .int .i64 ((to.length : Int))), (28, .int .i64 (((k : Int)) + 1))]) (by kernel_rfl) ?_
  refine ops_nil ?_
  refine nx_round ((k) + 1) (proj_sub [2, 26, 27, 28] (by kernel_rfl)) ⟨(((Chg.refl [] w2).step0 h5 (by omega)).step0 c3 (by omega)), (show ((k) + 1) ≤ to.length by first | omega | (simp only [List.length_append, List.length_cons, List.length_nil, List.length_take, List.length_drop, List.length_map]; omega)), (show ∀ q, q < ((k) + 1) → mailboxP (to.getD q []) by exact fun q hq => if e : q = k then (by rw [e]; assumption) else hall q (by omega))⟩ (show to.length - ((k) + 1) < to.length - k by omega)
  refine at_exit (ex_seq (ex_inv (ex_here (nx_seq (at_seq (at_region ?_))))))
  refine ops_run1 (l' := [(2, .bool true)]) (by kernel_rfl) ?_
  refine ops_nil (nx_seq ?_)
  refine at_ret (rs := [.tmp 2]) (vs := [.bool true]) rfl (by kernel_rfl) ?_
  exact ⟨_, rfl, (congrArg Value.bool (decide_eq_true (p := envP fr to at_) (by exact ⟨by first | exact .inl (by assumption) | exact .inr (by assumption) | exact .inl (Decidable.of_not_not (by assumption)), by omega, by omega, all_of_getD (d := []) (fun q hq => hall q (by omega))⟩)).symm), ((((Chg.refl [] w).step0 c1 (by omega)).step0 c2 (by omega)).step0 h5 (by omega))⟩
  rw [show (decide (mailboxP fr)) = false from decide_eq_false q2]
  refine ops_run10 (l' := [(1, .pointer (some ⟨b1, 0, none⟩)), (2, .bool false), (24, .bool true)]) (by kernel_rfl) ?_
  refine ops_nil (nx_seq ?_)
  refine at_ift (by kernel_rfl) ?_
  refine at_seq (at_region ?_)
  refine ops_run1 (l' := [(1, .pointer (some ⟨b1, 0, none⟩)), (2, .bool false)]) (by kernel_rfl) ?_
  refine ops_nil (nx_seq ?_)
  refine at_ret (rs := [.tmp 2]) (vs := [.bool false]) rfl (by kernel_rfl) ?_
  exact ⟨_, rfl, (congrArg Value.bool (decide_eq_false (p := envP fr to at_) (by rintro ⟨g1, g2, g3, g4⟩; first | omega | (rcases g1 with g1 | g1 <;> contradiction) | (have := g4 (to.getD k []) (getD_mem (by omega)); contradiction))).symm), (((Chg.refl [] w).step0 c1 (by omega)).step0 c2 (by omega))⟩
  rw [show (decide ((fr : Bytes) ≠ [])) = false from decide_eq_false q1]
  have l2 : fr.length = 0 := by rw [Decidable.of_not_not q1]; rfl
  refine ops_run7 (l' := [(1, .pointer (some ⟨b1, 0, none⟩)), (2, .bool false), (14, .bool false), (15, .pointer (some ⟨b1, 1, none⟩))]) (by kernel_rfl) ?_
  refine ops_loadB (i := 1) (v := v) (by kernel_rfl) (by kernel_rfl) (by kernel_rfl) (by kernel_rfl) h1 (by kernel_rfl) ?_
  have h11 := hv.keep0 c1 (by omega)
  refine ops_len (e := 9) (by kernel_rfl) (by kernel_rfl) (by kernel_rfl) (by kernel_rfl) h11 ?_
  refine ops_run3 (l' := [(1, .pointer (some ⟨b1, 0, none⟩)), (2, .bool false), (20, .bool (decide (((to.length : Int) : Int) < (1 : Int))))]) (by kernel_rfl) ?_
  by_cases q7 : ((to.length : Int) : Int) < (1 : Int)
  rw [show (decide (((to.length : Int) : Int) < (1 : Int))) = true from decide_eq_true q7]
  refine ops_run4 (l' := [(1, .pointer (some ⟨b1, 0, none⟩)), (2, .bool false), (24, .bool true)]) (by kernel_rfl) ?_
  refine ops_nil (nx_seq ?_)
  refine at_ift (by kernel_rfl) ?_
  refine at_seq (at_region ?_)
  refine ops_run1 (l' := [(1, .pointer (some ⟨b1, 0, none⟩)), (2, .bool false)]) (by kernel_rfl) ?_
  refine ops_nil (nx_seq ?_)
  refine at_ret (rs := [.tmp 2]) (vs := [.bool false]) rfl (by kernel_rfl) ?_
  exact ⟨_, rfl, (congrArg Value.bool (decide_eq_false (p := envP fr to at_) (by rintro ⟨g1, g2, g3, g4⟩; first | omega | (rcases g1 with g1 | g1 <;> contradiction) | (have := g4 (to.getD k []) (getD_mem (by omega)); contradiction))).symm), ((Chg.refl [] w).step0 c1 (by omega))⟩
  rw [show (decide (((to.length : Int) : Int) < (1 : Int))) = false from decide_eq_false q7]
  refine ops_run1 (l' := [(1, .pointer (some ⟨b1, 0, none⟩)), (2, .bool false), (20, .bool false), (21, .pointer (some ⟨b1, 2, none⟩))]) (by kernel_rfl) ?_
  refine ops_loadB (i := 2) (v := .int .i64 at_) (by kernel_rfl) (by kernel_rfl) (by kernel_rfl) (by kernel_rfl) h1 (by kernel_rfl) ?_
  refine ops_run2 (l' := [(1, .pointer (some ⟨b1, 0, none⟩)), (2, .bool false), (24, .bool (decide ((at_ : Int) < (0 : Int))))]) (by kernel_rfl) ?_
  refine ops_nil (nx_seq ?_)
  refine at_ifp ((at_ : Int) < (0 : Int)) (by kernel_rfl) (fun q8 => ?_) (fun q8 => ?_)
  refine at_seq (at_region ?_)
  refine ops_run1 (l' := [(1, .pointer (some ⟨b1, 0, none⟩)), (2, .bool false)]) (by kernel_rfl) ?_
  refine ops_nil (nx_seq ?_)
  refine at_ret (rs := [.tmp 2]) (vs := [.bool false]) rfl (by kernel_rfl) ?_
  exact ⟨_, rfl, (congrArg Value.bool (decide_eq_false (p := envP fr to at_) (by rintro ⟨g1, g2, g3, g4⟩; first | omega | (rcases g1 with g1 | g1 <;> contradiction) | (have := g4 (to.getD k []) (getD_mem (by omega)); contradiction))).symm), ((Chg.refl [] w).step0 c1 (by omega))⟩
  refine at_skip (nx_seq (at_seq (at_seq (at_region ?_))))
  refine ops_run1 (l' := [(2, .bool false), (25, .pointer (some ⟨b1, 1, none⟩))]) (by kernel_rfl) ?_
  refine ops_loadB (i := 1) (v := v) (by kernel_rfl) (by kernel_rfl) (by kernel_rfl) (by kernel_rfl) h1 (by kernel_rfl) ?_
  refine ops_len (e := 9) (by kernel_rfl) (by kernel_rfl) (by kernel_rfl) (by kernel_rfl) h11 ?_
  refine ops_run1 (l' := [(2, .bool false), (26, v), (27, .int .i64 ((to.length : Int))), (28, .int .i64 0)]) (by kernel_rfl) ?_
  refine ops_nil (nx_seq (at_block ?_))
  refine at_loop (X := Nat) (fun x_ => [(2, .bool false), (26, v), (27, .int .i64 ((to.length : Int))), (28, .int .i64 ((x_ : Int)))]) (fun x_ W2 => Chg [] (w1.heap.size) w1 W2 ∧ (x_ ≤ to.length) ∧ (∀ q, q < x_ → mailboxP (to.getD q []))) (fun x_ => to.length - x_) 0 (proj_sub [2, 26, 27, 28] (by kernel_rfl)) ⟨(Chg.refl [] w1), (show 0 ≤ to.length by first | omega | (simp only [List.length_append, List.length_cons, List.length_nil, List.length_take, List.length_drop, List.length_map]; omega)), (show ∀ q, q < 0 → mailboxP (to.getD q []) by intro q hq; omega)⟩ ?_
  rintro k w5 ⟨h12, h13, h14⟩
  replace h12 : Chg [] (w1.heap.size) w1 w5 := h12
  replace h13 : (k ≤ to.length) := h13
  replace h14 : (∀ q, q < k → mailboxP (to.getD q [])) := h14
  have z6 := h12.size
  have hall := h14
  refine at_seq (at_region ?_)
  refine ops_run1 (l' := [(2, .bool false), (26, v), (27, .int .i64 ((to.length : Int))), (28, .int .i64 ((k : Int))), (29, .bool (decide (((k : Int) : Int) < ((to.length : Int) : Int))))]) (by kernel_rfl) ?_
  refine ops_nil (nx_seq (at_seq ?_))
  refine at_ifp (((k : Int) : Int) < ((to.length : Int) : Int)) (by kernel_rfl) (fun q9 => ?_) (fun q9 => ?_)
  refine at_skip (nx_seq (at_seq (at_block (at_seq (at_region ?_)))))
  have h15 := h11.keep0 h12 (by omega)
  refine ops_idx (e := 9) (i := (k : Int)) (kd := .i64) k (by kernel_rfl) (by kernel_rfl) (by kernel_rfl) (by kernel_rfl) (by kernel_rfl) (by kernel_rfl) h15 (by omega) (by first | omega | (simp only [List.length_append, List.length_cons, List.length_nil, List.length_take, List.length_drop, List.length_map]; omega)) (fun a2 h16 => ?_)
  have h17 := cell_sAt (l := to) (j := k) h16 (by omega)
  refine ops_load (by kernel_rfl) (by kernel_rfl) (by kernel_rfl) (by kernel_rfl) h17 ?_
  have hpl := ht (to.getD k []) (getD_mem (by omega))
  refine ops_run1 (l' := [(2, .bool false), (4, S (to.getD k [])), (26, v), (27, .int .i64 ((to.length : Int))), (28, .int .i64 ((k : Int)))]) (by kernel_rfl) ?_
  refine ops_nil (nx_seq (at_seq (at_region ?_)))
  refine ops_run1 (l' := [(2, .bool false), (26, v), (27, .int .i64 ((to.length : Int))), (28, .int .i64 ((k : Int))), (32, S (to.getD k []))]) (by kernel_rfl) ?_
  refine ops_callr (by kernel_rfl) (by kernel_rfl) (by kernel_rfl) (rMailbox_ok (to.getD k []) (by omega) w5) ?_
  rintro _ w6 ⟨rfl, c4⟩
  have z7 := c4.size
  refine ops_run1 (l' := [(2, .bool false), (26, v), (27, .int .i64 ((to.length : Int))), (28, .int .i64 ((k : Int))), (34, .bool (!(decide (mailboxP (to.getD k [])))))]) (by kernel_rfl) ?_
  refine ops_nil (nx_seq ?_)
  refine at_ifn (mailboxP (to.getD k [])) (by kernel_rfl) (fun q10 => ?_) (fun q10 => ?_)
  refine at_seq (at_region ?_)
  refine ops_run1 (l' := [(2, .bool false), (26, v), (27, .int .i64 ((to.length : Int))), (28, .int .i64 ((k : Int)))]) (by kernel_rfl) ?_
  refine ops_nil (nx_seq ?_)
  refine at_ret (rs := [.tmp 2]) (vs := [.bool false]) rfl (by kernel_rfl) ?_
  exact ⟨_, rfl, (congrArg Value.bool (decide_eq_false (p := envP fr to at_) (by rintro ⟨g1, g2, g3, g4⟩; first | omega | (rcases g1 with g1 | g1 <;> contradiction) | (have := g4 (to.getD k []) (getD_mem (by omega)); contradiction))).symm), ((((Chg.refl [] w).step0 c1 (by omega)).step0 h12 (by omega)).step0 c4 (by omega))⟩
  refine at_skip (nx_blk (nx_seq (at_region ?_)))
  refine ops_add (a := (k : Int)) (b := 1) (kd := .i64) (by kernel_rfl) (by kernel_rfl) (by kernel_rfl) (by kernel_rfl) (show (-9223372036854775808 : Int) ≤ ((k : Int)) + 1 by omega) (show ((k : Int)) + 1 ≤ (9223372036854775807 : Int) by omega) ?_
  refine ops_run1 (l' := [(2, .bool false), (26, v), (27, .int .i64 ((to.length : Int))), (28, .int .i64 (((k : Int)) + 1))]) (by kernel_rfl) ?_
  refine ops_nil ?_
  refine nx_round ((k) + 1) (proj_sub [2, 26, 27, 28] (by kernel_rfl)) ⟨(((Chg.refl [] w1).step0 h12 (by omega)).step0 c4 (by omega)), (show ((k) + 1) ≤ to.length by first | omega | (simp only [List.length_append, List.length_cons, List.length_nil, List.length_take, List.length_drop, List.length_map]; omega)), (show ∀ q, q < ((k) + 1) → mailboxP (to.getD q []) by exact fun q hq => if e : q = k then (by rw [e]; assumption) else hall q (by omega))⟩ (show to.length - ((k) + 1) < to.length - k by omega)
  refine at_exit (ex_seq (ex_inv (ex_here (nx_seq (at_seq (at_region ?_))))))
  refine ops_run1 (l' := [(2, .bool true)]) (by kernel_rfl) ?_
  refine ops_nil (nx_seq ?_)
  refine at_ret (rs := [.tmp 2]) (vs := [.bool true]) rfl (by kernel_rfl) ?_
  exact ⟨_, rfl, (congrArg Value.bool (decide_eq_true (p := envP fr to at_) (by exact ⟨by first | exact .inl (by assumption) | exact .inr (by assumption) | exact .inl (Decidable.of_not_not (by assumption)), by omega, by omega, all_of_getD (d := []) (fun q hq => hall q (by omega))⟩)).symm), (((Chg.refl [] w).step0 c1 (by omega)).step0 h12 (by omega))⟩
theorem rCheck_ok (fr : Bytes) (to : List Bytes) (at_ : Int) {w : World} {lo hi : Nat} {v : Value} (hv : Ss w lo hi v to) (body : Bytes) {lo2 hi2 : Nat} {bv : Value} (hb : Bs w lo2 hi2 bv body) (hf : fr.length < 4611686018427387904) (ht : ∀ s, s ∈ to → s.length < 4611686018427387904) : Pu Tryd.prog 92 #[.agg #[S fr, v, .int .i64 at_], bv] w (.int .i64 (if checkP fr to at_ body then 0 else 150)) := by
  have hhi := hv.hi_le
  have hhb := hb.hi_le
  refine enter (n := 19) (args := [.agg #[S fr, v, .int .i64 at_], bv]) Tryd.func92 rfl rfl (Nat.le_of_ble_eq_true (by kernel_rfl)) ?_
  refine at_seq (at_region ?_)
  refine ops_box (cs := [S fr, v, .int .i64 at_]) (by kernel_rfl) (by kernel_rfl) (by kernel_rfl) (fun b1 w1 e1 h1 c1 z1 => ?_)
  have z2 := c1.size
  refine ops_run1 (l' := [(1, bv), (2, .pointer (some ⟨b1, 0, none⟩)), (4, .int .i64 0)]) (by kernel_rfl) ?_
  refine ops_nil (nx_seq (at_seq (at_seq (at_region ?_))))
  refine ops_run1 (l' := [(1, bv), (2, .pointer (some ⟨b1, 0, none⟩)), (4, .int .i64 0), (5, .pointer (some ⟨b1, 1, none⟩))]) (by kernel_rfl) ?_
  refine ops_loadB (i := 1) (v := v) (by kernel_rfl) (by kernel_rfl) (by kernel_rfl) (by kernel_rfl) h1 (by kernel_rfl) ?_
  have h2 := hv.keep0 c1 (by omega)
  refine ops_len (e := 9) (by kernel_rfl) (by kernel_rfl) (by kernel_rfl) (by kernel_rfl) h2 ?_
  refine ops_run2 (l' := [(1, bv), (2, .pointer (some ⟨b1, 0, none⟩)), (4, .int .i64 0), (9, .bool (decide (((to.length : Int) : Int) > (100 : Int))))]) (by kernel_rfl) ?_
  by_cases q1 : ((to.length : Int) : Int) > (100 : Int)
  rw [show (decide (((to.length : Int) : Int) > (100 : Int))) = true from decide_eq_true q1]
  refine ops_run9 (l' := [(4, .int .i64 0), (18, .bool true)]) (by kernel_rfl) ?_
  refine ops_nil (nx_seq ?_)
  refine at_ift (by kernel_rfl) ?_
  refine at_seq (at_region ?_)
  refine ops_run1 (l' := [(4, .int .i64 150)]) (by kernel_rfl) ?_
  refine ops_nil (nx_seq ?_)
  refine at_ret (rs := [.tmp 4]) (vs := [.int .i64 150]) rfl (by kernel_rfl) ?_
  exact ⟨_, rfl, (by rw [if_neg (by rintro ⟨g1, g2, g3⟩; first | omega | contradiction)]; rfl), ((Chg.refl [] w).step0 c1 (by omega))⟩
  rw [show (decide (((to.length : Int) : Int) > (100 : Int))) = false from decide_eq_false q1]
  refine ops_loadS (i := 0) (vs := [S fr, v, .int .i64 at_]) 3 (by kernel_rfl) (by kernel_rfl) (by kernel_rfl) (by kernel_rfl) (by kernel_rfl) h1 (by kernel_rfl) (by kernel_rfl) ?_
  refine ops_callr (by kernel_rfl) (by kernel_rfl) (by kernel_rfl) (envelope_ok fr to (at_) h2 (by exact hf) (by exact ht)) ?_
  rintro _ w2 ⟨rfl, c2⟩
  have z3 := c2.size
  refine ops_run3 (l' := [(1, bv), (4, .int .i64 0), (14, .bool (!(decide (envP fr to (at_)))))]) (by kernel_rfl) ?_
  by_cases q2 : envP fr to (at_)
  rw [show (decide (envP fr to (at_))) = true from decide_eq_true q2]
  refine ops_run1 (l' := [(4, .int .i64 0), (14, .bool false), (15, bv)]) (by kernel_rfl) ?_
  have h3 := hb.keep0 c1 (by omega)
  have h4 := h3.keep0 c2 (by omega)
  refine ops_len (e := 5) (by kernel_rfl) (by kernel_rfl) (by kernel_rfl) (by kernel_rfl) h4 ?_
  refine ops_run2 (l' := [(4, .int .i64 0), (18, .bool (decide (((body.length : Int) : Int) > (500000 : Int))))]) (by kernel_rfl) ?_
  refine ops_nil (nx_seq ?_)
  refine at_ifp (((body.length : Int) : Int) > (500000 : Int)) (by kernel_rfl) (fun q3 => ?_) (fun q3 => ?_)
  refine at_seq (at_region ?_)
  refine ops_run1 (l' := [(4, .int .i64 150)]) (by kernel_rfl) ?_
  refine ops_nil (nx_seq ?_)
  refine at_ret (rs := [.tmp 4]) (vs := [.int .i64 150]) rfl (by kernel_rfl) ?_
  exact ⟨_, rfl, (by rw [if_neg (by rintro ⟨g1, g2, g3⟩; first | omega | contradiction)]; rfl), (((Chg.refl [] w).step0 c1 (by omega)).step0 c2 (by omega))⟩
  refine at_skip (nx_seq (at_seq (at_region ?_)))
  refine ops_run1 (l' := [(4, .int .i64 0)]) (by kernel_rfl) ?_
  refine ops_nil (nx_seq ?_)
  refine at_ret (rs := [.tmp 4]) (vs := [.int .i64 0]) rfl (by kernel_rfl) ?_
  exact ⟨_, rfl, (by rw [if_pos ⟨by assumption, by omega, by omega⟩]; rfl), (((Chg.refl [] w).step0 c1 (by omega)).step0 c2 (by omega))⟩
  rw [show (decide (envP fr to (at_))) = false from decide_eq_false q2]
  refine ops_run4 (l' := [(4, .int .i64 0), (18, .bool true)]) (by kernel_rfl) ?_
  refine ops_nil (nx_seq ?_)
  refine at_ift (by kernel_rfl) ?_
  refine at_seq (at_region ?_)
  refine ops_run1 (l' := [(4, .int .i64 150)]) (by kernel_rfl) ?_
  refine ops_nil (nx_seq ?_)
  refine at_ret (rs := [.tmp 4]) (vs := [.int .i64 150]) rfl (by kernel_rfl) ?_
  exact ⟨_, rfl, (by rw [if_neg (by rintro ⟨g1, g2, g3⟩; first | omega | contradiction)]; rfl), (((Chg.refl [] w).step0 c1 (by omega)).step0 c2 (by omega))⟩

end Go.Proofs.YtnjkdnbabogcjaaDoor
