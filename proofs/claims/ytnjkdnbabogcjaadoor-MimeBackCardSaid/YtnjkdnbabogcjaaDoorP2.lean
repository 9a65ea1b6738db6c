/- A walk, printed by a program of my own (wip/gen/walk.py) from a script of mine. -/
import Derived.Test.YtnjkdnbabogcjaaDoorProg
import Derived.Test.YtnjkdnbabogcjaaDoorL0
import Derived.Test.YtnjkdnbabogcjaaDoorP1
set_option maxHeartbeats 4000000
set_option linter.unusedVariables false
set_option linter.unusedSimpArgs false
set_option maxRecDepth 100000
namespace Go.Proofs.YtnjkdnbabogcjaaDoor
open Go Go.RowKit Go.Kw

theorem last_ok (s : Bytes) (u : UInt8) (hs : s.length < 4611686018427387904) (w : World) : Pu Tryd.prog 139 #[S s, .int .u8 u.toNat] w (.int .i64 (lastB s u)) := by
  refine enter (n := 19) (args := [S s, .int .u8 ((u.toNat : Int))]) Tryd.func139 rfl rfl (Nat.le_of_ble_eq_true (by kernel_rfl)) ?_
  refine at_seq (at_region ?_)
  refine ops_run1 (l' := [(0, S s), (1, .int .u8 ((u.toNat : Int))), (4, .int .i64 0)]) (by kernel_rfl) ?_
  refine ops_nil (nx_seq (at_seq (at_seq (at_region ?_))))
  refine ops_run2 (l' := [(0, S s), (1, .int .u8 ((u.toNat : Int))), (4, .int .i64 0), (7, .int .i64 ((s.length : Int)))]) (by kernel_rfl) ?_
  refine ops_sub_ (a := (s.length : Int)) (b := 1) (kd := .i64) (by kernel_rfl) (by kernel_rfl) (by kernel_rfl) (by kernel_rfl) (show (-9223372036854775808 : Int) ≤ ((s.length : Int)) - 1 by omega) (show ((s.length : Int)) - 1 ≤ (9223372036854775807 : Int) by omega) ?_
  refine ops_run1 (l' := [(0, S s), (1, .int .u8 ((u.toNat : Int))), (4, .int .i64 0), (5, .int .i64 (((s.length : Int)) - 1))]) (by kernel_rfl) ?_
  refine ops_nil (nx_seq (at_block ?_))
  have e1 : (((s.length : Int)) - 1 : Int) = (s.length : Int) - 1 := by omega
  refine at_loop (X := Nat) (fun x_ => [(0, S s), (1, .int .u8 ((u.toNat : Int))), (4, .int .i64 0), (5, .int .i64 ((x_ : Int) - 1))]) (fun x_ W1 => Chg [] (w.heap.size) w W1 ∧ (x_ ≤ s.length) ∧ (∀ j, x_ ≤ j → j < s.length → bAt s j ≠ (u.toNat : Int))) (fun x_ => x_) s.length (proj_subE (l1 := [(0, S s), (1, .int .u8 ((u.toNat : Int))), (4, .int .i64 0), (5, .int .i64 (((s.length : Int)) - 1))]) (l2 := [(0, S s), (1, .int .u8 ((u.toNat : Int))), (4, .int .i64 0), (5, .int .i64 ((s.length : Int) - 1))]) (by kernel_rfl) (by simp only [e1]) (by kernel_rfl)) ⟨(Chg.refl [] w), (show s.length ≤ s.length by first | omega | (simp only [List.length_append, List.length_cons, List.length_nil, List.length_take, List.length_drop, List.length_map]; omega)), (show ∀ j, s.length ≤ j → j < s.length → bAt s j ≠ (u.toNat : Int) by exact fun j h1 h2 => absurd h1 (by omega))⟩ ?_
  rintro n w1 ⟨h1, h2, h3⟩
  replace h1 : Chg [] (w.heap.size) w w1 := h1
  replace h2 : (n ≤ s.length) := h2
  replace h3 : (∀ j, n ≤ j → j < s.length → bAt s j ≠ (u.toNat : Int)) := h3
  have z1 := h1.size
  have hall := h3
  refine at_seq (at_seq (at_region ?_))
  refine ops_run2 (l' := [(0, S s), (1, .int .u8 ((u.toNat : Int))), (4, .int .i64 0), (5, .int .i64 ((n : Int) - 1)), (10, .bool (decide (((n : Int) - 1 : Int) ≥ (0 : Int))))]) (by kernel_rfl) ?_
  refine ops_nil (nx_seq ?_)
  refine at_ifp (((n : Int) - 1 : Int) ≥ (0 : Int)) (by kernel_rfl) (fun q1 => ?_) (fun q1 => ?_)
  refine at_skip (nx_seq (at_seq (at_block (at_seq (at_region ?_)))))
  refine ops_run2 (l' := [(0, S s), (1, .int .u8 ((u.toNat : Int))), (4, .int .i64 0), (5, .int .i64 ((n : Int) - 1)), (13, S s), (14, .int .i64 ((n : Int) - 1))]) (by kernel_rfl) ?_
  refine ops_at (b := s) (i := (n : Int) - 1) (kd := .i64) (n - 1) (by kernel_rfl) (by kernel_rfl) (by kernel_rfl) (by kernel_rfl) (by kernel_rfl) (by omega) (by omega) ?_
  have r1 := bAt_range s (n - 1)
  refine ops_run2 (l' := [(0, S s), (1, .int .u8 ((u.toNat : Int))), (4, .int .i64 0), (5, .int .i64 ((n : Int) - 1)), (17, .bool (decide ((bAt s (n - 1) : Int) = ((u.toNat : Int) : Int))))]) (by kernel_rfl) ?_
  refine ops_nil (nx_seq ?_)
  refine at_ifp ((bAt s (n - 1) : Int) = ((u.toNat : Int) : Int)) (by kernel_rfl) (fun q2 => ?_) (fun q2 => ?_)
  refine at_seq (at_region ?_)
  refine ops_run2 (l' := [(0, S s), (1, .int .u8 ((u.toNat : Int))), (4, .int .i64 ((n : Int) - 1)), (5, .int .i64 ((n : Int) - 1))]) (by kernel_rfl) ?_
  refine ops_nil (nx_seq ?_)
  refine at_ret (rs := [.tmp 4]) (vs := [.int .i64 ((n : Int) - 1)]) rfl (by kernel_rfl) ?_
  exact ⟨_, rfl, (congrArg (Value.int .i64) (show ((n : Int) - 1 : Int) = lastB s u from (by rw [lastB_eq (i := n - 1) (by omega) (by assumption) (fun j h1 h2 => hall j (by omega) h2)]; omega))), ((Chg.refl [] w).step0 h1 (by omega))⟩
  refine at_skip (nx_blk (nx_seq (at_region ?_)))
  refine ops_run1 (l' := [(0, S s), (1, .int .u8 ((u.toNat : Int))), (4, .int .i64 0), (5, .int .i64 ((n : Int) - 1)), (11, .int .i64 ((n : Int) - 1))]) (by kernel_rfl) ?_
  refine ops_sub_ (a := (n : Int) - 1) (b := 1) (kd := .i64) (by kernel_rfl) (by kernel_rfl) (by kernel_rfl) (by kernel_rfl) (show (-9223372036854775808 : Int) ≤ ((n : Int) - 1) - 1 by omega) (show ((n : Int) - 1) - 1 ≤ (9223372036854775807 : Int) by omega) ?_
  refine ops_run1 (l' := [(0, S s), (1, .int .u8 ((u.toNat : Int))), (4, .int .i64 0), (5, .int .i64 (((n : Int) - 1) - 1))]) (by kernel_rfl) ?_
  refine ops_nil ?_
  have e2 : (((n : Int) - 1) - 1 : Int) = (((n - 1) : Nat) : Int) - 1 := by omega
  refine nx_round (n - 1) (proj_subE (l1 := [(0, S s), (1, .int .u8 ((u.toNat : Int))), (4, .int .i64 0), (5, .int .i64 (((n : Int) - 1) - 1))]) (l2 := [(0, S s), (1, .int .u8 ((u.toNat : Int))), (4, .int .i64 0), (5, .int .i64 ((((n - 1) : Nat) : Int) - 1))]) (by kernel_rfl) (by simp only [e2]) (by kernel_rfl)) ⟨((Chg.refl [] w).step0 h1 (by omega)), (show (n - 1) ≤ s.length by first | omega | (simp only [List.length_append, List.length_cons, List.length_nil, List.length_take, List.length_drop, List.length_map]; omega)), (show ∀ j, (n - 1) ≤ j → j < s.length → bAt s j ≠ (u.toNat : Int) by exact fun j h1 h2 => if e : j = n - 1 then (by rw [e]; assumption) else hall j (by omega) h2)⟩ (show (n - 1) < n by omega)
  refine at_exit (ex_seq (ex_inv (ex_here (nx_seq (at_seq (at_region ?_))))))
  refine ops_run1 (l' := [(4, .int .i64 (-1))]) (by kernel_rfl) ?_
  refine ops_nil (nx_seq ?_)
  refine at_ret (rs := [.tmp 4]) (vs := [.int .i64 (-1)]) rfl (by kernel_rfl) ?_
  exact ⟨_, rfl, (congrArg (Value.int .i64) (show (-1 : Int) = lastB s u from (lastB_none (fun j hj => hall j (by omega) hj)).symm)), ((Chg.refl [] w).step0 h1 (by omega))⟩
theorem parts_ok (s : Bytes) (hs : s.length < 1099511627776) (w : World) : Rt Tryd.prog 141 #[S s] w fun v w' => OwnS w' w.heap.size v (parts s) ∧ Chg [] w.heap.size w w' := by
  refine enter (n := 32) (args := [S s]) Tryd.func141 rfl rfl (Nat.le_of_ble_eq_true (by kernel_rfl)) ?_
  refine at_seq (at_region ?_)
  refine ops_run1 (l' := [(0, S s), (2, .slice none 0 0)]) (by kernel_rfl) ?_
  refine ops_nil (nx_seq (at_seq (at_region ?_)))
  refine ops_run1 (l' := [(0, S s), (2, .slice none 0 0), (3, .slice none 0 0)]) (by kernel_rfl) ?_
  refine ops_nil (nx_seq (at_seq (at_region ?_)))
  refine ops_run1 (l' := [(0, S s), (2, .slice none 0 0), (3, .slice none 0 0), (4, .int .i64 0)]) (by kernel_rfl) ?_
  refine ops_nil (nx_seq (at_seq (at_seq (at_region ?_))))
  refine ops_run1 (l' := [(0, S s), (2, .slice none 0 0), (3, .slice none 0 0), (4, .int .i64 0), (5, .int .i64 0)]) (by kernel_rfl) ?_
  refine ops_nil (nx_seq (at_block ?_))
  refine at_loop (X := Value × (List Bytes) × Nat × Nat) (fun x_ => [(0, S s), (2, .slice none 0 0), (3, x_.1), (4, .int .i64 ((x_.2.2.1 : Int))), (5, .int .i64 ((x_.2.2.2 : Int)))]) (fun x_ W1 => Chg [] (w.heap.size) w W1 ∧ OwnS W1 w.heap.size x_.1 x_.2.1 ∧ (x_.2.2.2 ≤ s.length + 1) ∧ (x_.2.2.1 ≤ x_.2.2.2) ∧ (x_.2.1.length ≤ x_.2.2.2) ∧ ((x_.2.2.2 ≤ s.length → x_.2.1 ++ parts (s.drop x_.2.2.1) = parts s ∧ ∀ j, x_.2.2.1 ≤ j → j < x_.2.2.2 → bAt s j ≠ 46)) ∧ ((x_.2.2.2 = s.length + 1 → x_.2.1 = parts s))) (fun x_ => s.length + 1 - x_.2.2.2) (.slice none 0 0, [], 0, 0) (proj_sub [0, 2, 3, 4, 5] (by kernel_rfl)) ⟨(Chg.refl [] w), Own.nil _ _ _ (by omega), (show 0 ≤ s.length + 1 by first | omega | (simp only [List.length_append, List.length_cons, List.length_nil, List.length_take, List.length_drop, List.length_map]; omega)), (show 0 ≤ 0 by first | omega | (simp only [List.length_append, List.length_cons, List.length_nil, List.length_take, List.length_drop, List.length_map]; omega)), (show [].length ≤ 0 by first | omega | (simp only [List.length_append, List.length_cons, List.length_nil, List.length_take, List.length_drop, List.length_map]; omega)), (show (0 ≤ s.length → [] ++ parts (s.drop 0) = parts s ∧ ∀ j, 0 ≤ j → j < 0 → bAt s j ≠ 46) by simp), (show (0 = s.length + 1 → [] = parts s) by omega)⟩ ?_
  rintro ⟨out, l, a0, i⟩ w1 ⟨h1, h2, h3, h4, h5, h6, h7⟩
  replace h1 : Chg [] (w.heap.size) w w1 := h1
  replace h2 : OwnS w1 w.heap.size out l := h2
  replace h3 : (i ≤ s.length + 1) := h3
  replace h4 : (a0 ≤ i) := h4
  replace h5 : (l.length ≤ i) := h5
  replace h6 : ((i ≤ s.length → l ++ parts (s.drop a0) = parts s ∧ ∀ j, a0 ≤ j → j < i → bAt s j ≠ 46)) := h6
  replace h7 : ((i = s.length + 1 → l = parts s)) := h7
  have z1 := h1.size
  refine at_seq (at_seq (at_region ?_))
  refine ops_run4 (l' := [(0, S s), (2, .slice none 0 0), (3, out), (4, .int .i64 ((a0 : Int))), (5, .int .i64 ((i : Int))), (9, .bool (decide (((i : Int) : Int) ≤ ((s.length : Int) : Int))))]) (by kernel_rfl) ?_
  refine ops_nil (nx_seq ?_)
  refine at_ifp (((i : Int) : Int) ≤ ((s.length : Int) : Int)) (by kernel_rfl) (fun q1 => ?_) (fun q1 => ?_)
  refine at_skip (nx_seq (at_seq (at_block (at_seq (at_region ?_)))))
  refine ops_run5 (l' := [(0, S s), (2, .slice none 0 0), (3, out), (4, .int .i64 ((a0 : Int))), (5, .int .i64 ((i : Int))), (16, .bool (decide (((i : Int) : Int) = ((s.length : Int) : Int))))]) (by kernel_rfl) ?_
  by_cases q2 : ((i : Int) : Int) = ((s.length : Int) : Int)
  rw [show (decide (((i : Int) : Int) = ((s.length : Int) : Int))) = true from decide_eq_true q2]
  refine ops_run5 (l' := [(0, S s), (2, .slice none 0 0), (3, out), (4, .int .i64 ((a0 : Int))), (5, .int .i64 ((i : Int))), (21, .bool true)]) (by kernel_rfl) ?_
  refine ops_nil (nx_seq ?_)
  refine at_ift (by kernel_rfl) ?_
  refine at_seq (at_region ?_)
  refine ops_run4 (l' := [(0, S s), (2, .slice none 0 0), (3, out), (4, .int .i64 ((a0 : Int))), (5, .int .i64 ((i : Int))), (22, out), (23, S s), (24, .int .i64 ((a0 : Int))), (25, .int .i64 ((i : Int)))]) (by kernel_rfl) ?_
  refine ops_partS (s := s) (i := (a0 : Int)) (kd := .i64) (i' := (i : Int)) (kd' := .i64) a0 i (by kernel_rfl) (by kernel_rfl) (by kernel_rfl) (by kernel_rfl) (by kernel_rfl) (by kernel_rfl) (by first | omega | (simp only [List.length_append, List.length_cons, List.length_nil, List.length_take, List.length_drop, List.length_map]; omega)) (by first | omega | (simp only [List.length_append, List.length_cons, List.length_nil, List.length_take, List.length_drop, List.length_map]; omega)) (by first | omega | (simp only [List.length_append, List.length_cons, List.length_nil, List.length_take, List.length_drop, List.length_map]; omega)) (by first | omega | (simp only [List.length_append, List.length_cons, List.length_nil, List.length_take, List.length_drop, List.length_map]; omega)) ?_
  refine ops_lit (e := 9) (sz := 1) [S ((s.drop a0).take (i - a0))] (by kernel_rfl) (by kernel_rfl) (by kernel_rfl) rfl (by decide) (fun v1 w2 h8 c1 z2 => ?_)
  have z3 := c1.size
  replace h8 : OwnS w2 (w1.heap.size) v1 [(s.drop a0).take (i - a0)] := h8.1
  have h9 := h2.keep c1 (by omega) (fun _ _ _ => by simp)
  refine ops_appendS (e := 9) (by_ := 16) (l1 := l) (l2 := [(s.drop a0).take (i - a0)]) (by kernel_rfl) (by kernel_rfl) (by kernel_rfl) (by kernel_rfl) (by kernel_rfl) (by kernel_rfl) (by kernel_rfl) h9 h8.sl (by first | omega | (simp only [List.length_append, List.length_cons, List.length_nil, List.length_take, List.length_drop, List.length_map]; omega)) (by first | omega | (simp only [List.length_append, List.length_cons, List.length_nil, List.length_take, List.length_drop, List.length_map]; omega)) (fun v2 w3 h10 c2 c3 => ?_)
  have z4 := c2.size
  refine ops_run1 (l' := [(0, S s), (2, .slice none 0 0), (3, v2), (4, .int .i64 ((a0 : Int))), (5, .int .i64 ((i : Int)))]) (by kernel_rfl) ?_
  refine ops_nil (nx_seq (at_region ?_))
  refine ops_run1 (l' := [(0, S s), (2, .slice none 0 0), (3, v2), (4, .int .i64 ((a0 : Int))), (5, .int .i64 ((i : Int))), (29, .int .i64 ((i : Int)))]) (by kernel_rfl) ?_
  refine ops_add (a := (i : Int)) (b := 1) (kd := .i64) (by kernel_rfl) (by kernel_rfl) (by kernel_rfl) (by kernel_rfl) (show (-9223372036854775808 : Int) ≤ ((i : Int)) + 1 by omega) (show ((i : Int)) + 1 ≤ (9223372036854775807 : Int) by omega) ?_
  refine ops_run1 (l' := [(0, S s), (2, .slice none 0 0), (3, v2), (4, .int .i64 (((i : Int)) + 1)), (5, .int .i64 ((i : Int)))]) (by kernel_rfl) ?_
  refine ops_nil (nx_blk (nx_seq (at_region ?_)))
  refine ops_run1 (l' := [(0, S s), (2, .slice none 0 0), (3, v2), (4, .int .i64 (((i : Int)) + 1)), (5, .int .i64 ((i : Int))), (10, .int .i64 ((i : Int)))]) (by kernel_rfl) ?_
  refine ops_add (a := (i : Int)) (b := 1) (kd := .i64) (by kernel_rfl) (by kernel_rfl) (by kernel_rfl) (by kernel_rfl) (show (-9223372036854775808 : Int) ≤ ((i : Int)) + 1 by omega) (show ((i : Int)) + 1 ≤ (9223372036854775807 : Int) by omega) ?_
  refine ops_run1 (l' := [(0, S s), (2, .slice none 0 0), (3, v2), (4, .int .i64 (((i : Int)) + 1)), (5, .int .i64 (((i : Int)) + 1))]) (by kernel_rfl) ?_
  refine ops_nil ?_
  refine nx_round (v2, l ++ [(s.drop a0).take (i - a0)], (i) + 1, (i) + 1) (proj_sub [0, 2, 3, 4, 5] (by kernel_rfl)) ⟨((((Chg.refl [] w).step0 h1 (by omega)).step0 c1 (by omega)).step0 c2 (by omega)), h10, (show ((i) + 1) ≤ s.length + 1 by first | omega | (simp only [List.length_append, List.length_cons, List.length_nil, List.length_take, List.length_drop, List.length_map]; omega)), (show ((i) + 1) ≤ ((i) + 1) by first | omega | (simp only [List.length_append, List.length_cons, List.length_nil, List.length_take, List.length_drop, List.length_map]; omega)), (show (l ++ [(s.drop a0).take (i - a0)]).length ≤ ((i) + 1) by first | omega | (simp only [List.length_append, List.length_cons, List.length_nil, List.length_take, List.length_drop, List.length_map]; omega)), (show (((i) + 1) ≤ s.length → (l ++ [(s.drop a0).take (i - a0)]) ++ parts (s.drop ((i) + 1)) = parts s ∧ ∀ j, ((i) + 1) ≤ j → j < ((i) + 1) → bAt s j ≠ 46) by first | exact fun h => absurd h (by omega) | exact fun h => ⟨by rw [List.append_assoc]; exact (congrArg (l ++ ·) (parts_step (by omega) (by omega) (h6 (by omega)).2 (by assumption)).symm).trans (h6 (by omega)).1, fun j h1 h2 => absurd h1 (by omega)⟩), (show (((i) + 1) = s.length + 1 → (l ++ [(s.drop a0).take (i - a0)]) = parts s) by exact fun h => (by have h5 := h6 (by omega); rw [parts_last (fun j h1 h2 => h5.2 j h1 (by omega))] at h5; rw [← h5.1, List.take_of_length_le (by simp only [List.length_drop]; omega)]))⟩ (show s.length + 1 - ((i) + 1) < s.length + 1 - i by omega)
  rw [show (decide (((i : Int) : Int) = ((s.length : Int) : Int))) = false from decide_eq_false q2]
  refine ops_run2 (l' := [(0, S s), (2, .slice none 0 0), (3, out), (4, .int .i64 ((a0 : Int))), (5, .int .i64 ((i : Int))), (16, .bool false), (17, S s), (18, .int .i64 ((i : Int)))]) (by kernel_rfl) ?_
  refine ops_at (b := s) (i := (i : Int)) (kd := .i64) i (by kernel_rfl) (by kernel_rfl) (by kernel_rfl) (by kernel_rfl) (by kernel_rfl) (by omega) (by omega) ?_
  have r1 := bAt_range s i
  refine ops_run2 (l' := [(0, S s), (2, .slice none 0 0), (3, out), (4, .int .i64 ((a0 : Int))), (5, .int .i64 ((i : Int))), (21, .bool (decide ((bAt s i : Int) = (46 : Int))))]) (by kernel_rfl) ?_
  refine ops_nil (nx_seq ?_)
  refine at_ifp ((bAt s i : Int) = (46 : Int)) (by kernel_rfl) (fun q3 => ?_) (fun q3 => ?_)
  refine at_seq (at_region ?_)
  refine ops_run4 (l' := [(0, S s), (2, .slice none 0 0), (3, out), (4, .int .i64 ((a0 : Int))), (5, .int .i64 ((i : Int))), (22, out), (23, S s), (24, .int .i64 ((a0 : Int))), (25, .int .i64 ((i : Int)))]) (by kernel_rfl) ?_
  refine ops_partS (s := s) (i := (a0 : Int)) (kd := .i64) (i' := (i : Int)) (kd' := .i64) a0 i (by kernel_rfl) (by kernel_rfl) (by kernel_rfl) (by kernel_rfl) (by kernel_rfl) (by kernel_rfl) (by first | omega | (simp only [List.length_append, List.length_cons, List.length_nil, List.length_take, List.length_drop, List.length_map]; omega)) (by first | omega | (simp only [List.length_append, List.length_cons, List.length_nil, List.length_take, List.length_drop, List.length_map]; omega)) (by first | omega | (simp only [List.length_append, List.length_cons, List.length_nil, List.length_take, List.length_drop, List.length_map]; omega)) (by first | omega | (simp only [List.length_append, List.length_cons, List.length_nil, List.length_take, List.length_drop, List.length_map]; omega)) ?_
  refine ops_lit (e := 9) (sz := 1) [S ((s.drop a0).take (i - a0))] (by kernel_rfl) (by kernel_rfl) (by kernel_rfl) rfl (by decide) (fun v3 w4 h11 c4 z5 => ?_)
  have z6 := c4.size
  replace h11 : OwnS w4 (w1.heap.size) v3 [(s.drop a0).take (i - a0)] := h11.1
  have h12 := h2.keep c4 (by omega) (fun _ _ _ => by simp)
  refine ops_appendS (e := 9) (by_ := 16) (l1 := l) (l2 := [(s.drop a0).take (i - a0)]) (by kernel_rfl) (by kernel_rfl) (by kernel_rfl) (by kernel_rfl) (by kernel_rfl) (by kernel_rfl) (by kernel_rfl) h12 h11.sl (by first | omega | (simp only [List.length_append, List.length_cons, List.length_nil, List.length_take, List.length_drop, List.length_map]; omega)) (by first | omega | (simp only [List.length_append, List.length_cons, List.length_nil, List.length_take, List.length_drop, List.length_map]; omega)) (fun v4 w5 h13 c5 c6 => ?_)
  have z7 := c5.size
  refine ops_run1 (l' := [(0, S s), (2, .slice none 0 0), (3, v4), (4, .int .i64 ((a0 : Int))), (5, .int .i64 ((i : Int)))]) (by kernel_rfl) ?_
  refine ops_nil (nx_seq (at_region ?_))
  refine ops_run1 (l' := [(0, S s), (2, .slice none 0 0), (3, v4), (4, .int .i64 ((a0 : Int))), (5, .int .i64 ((i : Int))), (29, .int .i64 ((i : Int)))]) (by kernel_rfl) ?_
  refine ops_add (a := (i : Int)) (b := 1) (kd := .i64) (by kernel_rfl) (by kernel_rfl) (by kernel_rfl) (by kernel_rfl) (show (-9223372036854775808 : Int) ≤ ((i : Int)) + 1 by omega) (show ((i : Int)) + 1 ≤ (9223372036854775807 : Int) by omega) ?_
  refine ops_run1 (l' := [(0, S s), (2, .slice none 0 0), (3, v4), (4, .int .i64 (((i : Int)) + 1)), (5, .int .i64 ((i : Int)))]) (by kernel_rfl) ?_
  refine ops_nil (nx_blk (nx_seq (at_region ?_)))
  refine ops_run1 (l' := [(0, S s), (2, .slice none 0 0), (3, v4), (4, .int .i64 (((i : Int)) + 1)), (5, .int .i64 ((i : Int))), (10, .int .i64 ((i : Int)))]) (by kernel_rfl) ?_
  refine ops_add (a := (i : Int)) (b := 1) (kd := .i64) (by kernel_rfl) (by kernel_rfl) (by kernel_rfl) (by kernel_rfl) (show (-9223372036854775808 : Int) ≤ ((i : Int)) + 1 by omega) (show ((i : Int)) + 1 ≤ (9223372036854775807 : Int) by omega) ?_
  refine ops_run1 (l' := [(0, S s), (2, .slice none 0 0), (3, v4), (4, .int .i64 (((i : Int)) + 1)), (5, .int .i64 (((i : Int)) + 1))]) (by kernel_rfl) ?_
  refine ops_nil ?_
  refine nx_round (v4, l ++ [(s.drop a0).take (i - a0)], (i) + 1, (i) + 1) (proj_sub [0, 2, 3, 4, 5] (by kernel_rfl)) ⟨((((Chg.refl [] w).step0 h1 (by omega)).step0 c4 (by omega)).step0 c5 (by omega)), h13, (show ((i) + 1) ≤ s.length + 1 by first | omega | (simp only [List.length_append, List.length_cons, List.length_nil, List.length_take, List.length_drop, List.length_map]; omega)), (show ((i) + 1) ≤ ((i) + 1) by first | omega | (simp only [List.length_append, List.length_cons, List.length_nil, List.length_take, List.length_drop, List.length_map]; omega)), (show (l ++ [(s.drop a0).take (i - a0)]).length ≤ ((i) + 1) by first | omega | (simp only [List.length_append, List.length_cons, List.length_nil, List.length_take, List.length_drop, List.length_map]; omega)), (show (((i) + 1) ≤ s.length → (l ++ [(s.drop a0).take (i - a0)]) ++ parts (s.drop ((i) + 1)) = parts s ∧ ∀ j, ((i) + 1) ≤ j → j < ((i) + 1) → bAt s j ≠ 46) by first | exact fun h => absurd h (by omega) | exact fun h => ⟨by rw [List.append_assoc]; exact (congrArg (l ++ ·) (parts_step (by omega) (by omega) (h6 (by omega)).2 (by assumption)).symm).trans (h6 (by omega)).1, fun j h1 h2 => absurd h1 (by omega)⟩), (show (((i) + 1) = s.length + 1 → (l ++ [(s.drop a0).take (i - a0)]) = parts s) by exact fun h => (by have h5 := h6 (by omega); rw [parts_last (fun j h1 h2 => h5.2 j h1 (by omega))] at h5; rw [← h5.1, List.take_of_length_le (by simp only [List.length_drop]; omega)]))⟩ (show s.length + 1 - ((i) + 1) < s.length + 1 - i by omega)
  refine at_skip (nx_blk (nx_seq (at_region ?_)))
  refine ops_run1 (l' := [(0, S s), (2, .slice none 0 0), (3, out), (4, .int .i64 ((a0 : Int))), (5, .int .i64 ((i : Int))), (10, .int .i64 ((i : Int)))]) (by kernel_rfl) ?_
  refine ops_add (a := (i : Int)) (b := 1) (kd := .i64) (by kernel_rfl) (by kernel_rfl) (by kernel_rfl) (by kernel_rfl) (show (-9223372036854775808 : Int) ≤ ((i : Int)) + 1 by omega) (show ((i : Int)) + 1 ≤ (9223372036854775807 : Int) by omega) ?_
  refine ops_run1 (l' := [(0, S s), (2, .slice none 0 0), (3, out), (4, .int .i64 ((a0 : Int))), (5, .int .i64 (((i : Int)) + 1))]) (by kernel_rfl) ?_
  refine ops_nil ?_
  refine nx_round (out, l, a0, (i) + 1) (proj_sub [0, 2, 3, 4, 5] (by kernel_rfl)) ⟨((Chg.refl [] w).step0 h1 (by omega)), h2, (show ((i) + 1) ≤ s.length + 1 by first | omega | (simp only [List.length_append, List.length_cons, List.length_nil, List.length_take, List.length_drop, List.length_map]; omega)), (show a0 ≤ ((i) + 1) by first | omega | (simp only [List.length_append, List.length_cons, List.length_nil, List.length_take, List.length_drop, List.length_map]; omega)), (show l.length ≤ ((i) + 1) by first | omega | (simp only [List.length_append, List.length_cons, List.length_nil, List.length_take, List.length_drop, List.length_map]; omega)), (show (((i) + 1) ≤ s.length → l ++ parts (s.drop a0) = parts s ∧ ∀ j, a0 ≤ j → j < ((i) + 1) → bAt s j ≠ 46) by exact fun h => ⟨(h6 (by omega)).1, fun j h1 h2 => if e : j = i then (by rw [e]; assumption) else (h6 (by omega)).2 j h1 (by omega)⟩), (show (((i) + 1) = s.length + 1 → l = parts s) by omega)⟩ (show s.length + 1 - ((i) + 1) < s.length + 1 - i by omega)
  refine at_exit (ex_seq (ex_inv (ex_here (nx_seq (at_seq (at_region ?_))))))
  refine ops_run2 (l' := [(2, out)]) (by kernel_rfl) ?_
  refine ops_nil (nx_seq ?_)
  refine at_ret (rs := [.tmp 2]) (vs := [out]) rfl (by kernel_rfl) ?_
  exact ⟨_, rfl, (h7 (by omega)) ▸ h2, ((Chg.refl [] w).step0 h1 (by omega))⟩
theorem rDomain_ok (s : Bytes) (hs : s.length < 4611686018427387904) (w : World) : Pu Tryd.prog 140 #[S s] w (.bool (decide (domainP s))) := by
  have hpc := parts_count s
  refine enter (n := 60) (args := [S s]) Tryd.func140 rfl rfl (Nat.le_of_ble_eq_true (by kernel_rfl)) ?_
  refine at_seq (at_region ?_)
  refine ops_run1 (l' := [(0, S s), (2, .bool false)]) (by kernel_rfl) ?_
  refine ops_nil (nx_seq (at_seq (at_seq (at_region ?_))))
  refine ops_run4 (l' := [(0, S s), (2, .bool false), (9, .bool (decide (((s.length : Int) : Int) < (1 : Int))))]) (by kernel_rfl) ?_
  by_cases q1 : ((s.length : Int) : Int) < (1 : Int)
  rw [show (decide (((s.length : Int) : Int) < (1 : Int))) = true from decide_eq_true q1]
  refine ops_run4 (l' := [(0, S s), (2, .bool false), (13, .bool true)]) (by kernel_rfl) ?_
  refine ops_nil (nx_seq ?_)
  refine at_ift (by kernel_rfl) ?_
  refine at_seq (at_region ?_)
  refine ops_run1 (l' := [(0, S s), (2, .bool false)]) (by kernel_rfl) ?_
  refine ops_nil (nx_seq ?_)
  refine at_ret (rs := [.tmp 2]) (vs := [.bool false]) rfl (by kernel_rfl) ?_
  exact ⟨_, rfl, (congrArg Value.bool (decide_eq_false (p := domainP s) (by first | (rintro ⟨h1, h2⟩; first | omega | (have h3 := h2 [] (by rw [List.eq_nil_of_length_eq_zero (l := s) (by omega)]; simp [parts]); exact h3.1 rfl) | (obtain ⟨g1, g2, g3, g4, g5⟩ := h2 ((parts s).getD k []) (getD_mem (by omega)); first | contradiction | (have := List.length_pos_iff.2 g1; omega) | (rcases g5 i (by omega) with h6 | h6 <;> contradiction))))).symm), (Chg.refl [] w)⟩
  rw [show (decide (((s.length : Int) : Int) < (1 : Int))) = false from decide_eq_false q1]
  refine ops_run4 (l' := [(0, S s), (2, .bool false), (13, .bool (decide (((s.length : Int) : Int) > (255 : Int))))]) (by kernel_rfl) ?_
  refine ops_nil (nx_seq ?_)
  refine at_ifp (((s.length : Int) : Int) > (255 : Int)) (by kernel_rfl) (fun q2 => ?_) (fun q2 => ?_)
  refine at_seq (at_region ?_)
  refine ops_run1 (l' := [(0, S s), (2, .bool false)]) (by kernel_rfl) ?_
  refine ops_nil (nx_seq ?_)
  refine at_ret (rs := [.tmp 2]) (vs := [.bool false]) rfl (by kernel_rfl) ?_
  exact ⟨_, rfl, (congrArg Value.bool (decide_eq_false (p := domainP s) (by first | (rintro ⟨h1, h2⟩; first | omega | (have h3 := h2 [] (by rw [List.eq_nil_of_length_eq_zero (l := s) (by omega)]; simp [parts]); exact h3.1 rfl) | (obtain ⟨g1, g2, g3, g4, g5⟩ := h2 ((parts s).getD k []) (getD_mem (by omega)); first | contradiction | (have := List.length_pos_iff.2 g1; omega) | (rcases g5 i (by omega) with h6 | h6 <;> contradiction))))).symm), (Chg.refl [] w)⟩
  refine at_skip (nx_seq (at_seq (at_seq (at_region ?_))))
  refine ops_run1 (l' := [(2, .bool false), (14, S s)]) (by kernel_rfl) ?_
  refine ops_callr (by kernel_rfl) (by kernel_rfl) (by kernel_rfl) (parts_ok s (by first | omega | (simp only [List.length_take]; omega)) w) ?_
  rintro v1 w1 ⟨h1, c1⟩
  have z1 := c1.size
  refine ops_len (e := 9) (by kernel_rfl) (by kernel_rfl) (by kernel_rfl) (by kernel_rfl) h1.sl ?_
  refine ops_run1 (l' := [(2, .bool false), (15, v1), (16, .int .i64 (((((parts s).length) : Nat) : Int))), (17, .int .i64 0)]) (by kernel_rfl) ?_
  refine ops_nil (nx_seq (at_block ?_))
  refine at_loop (X := Nat) (fun x_ => [(2, .bool false), (15, v1), (16, .int .i64 (((((parts s).length) : Nat) : Int))), (17, .int .i64 ((x_ : Int)))]) (fun x_ W1 => Chg [] (w1.heap.size) w1 W1 ∧ (x_ ≤ (parts s).length) ∧ (∀ q, q < x_ → labelP ((parts s).getD q []))) (fun x_ => (parts s).length - x_) 0 (proj_sub [2, 15, 16, 17] (by kernel_rfl)) ⟨(Chg.refl [] w1), (show 0 ≤ (parts s).length by first | omega | (simp only [List.length_append, List.length_cons, List.length_nil, List.length_take, List.length_drop, List.length_map]; omega)), (show ∀ q, q < 0 → labelP ((parts s).getD q []) by intro q hq; omega)⟩ ?_
  rintro k w2 ⟨h2, h3, h4⟩
  replace h2 : Chg [] (w1.heap.size) w1 w2 := h2
  replace h3 : (k ≤ (parts s).length) := h3
  replace h4 : (∀ q, q < k → labelP ((parts s).getD q [])) := h4
  have z2 := h2.size
  have hall := h4
  refine at_seq (at_region ?_)
  refine ops_run1 (l' := [(2, .bool false), (15, v1), (16, .int .i64 (((((parts s).length) : Nat) : Int))), (17, .int .i64 ((k : Int))), (18, .bool (decide (((k : Int) : Int) < (((((parts s).length) : Nat) : Int) : Int))))]) (by kernel_rfl) ?_
  refine ops_nil (nx_seq (at_seq ?_))
  refine at_ifp (((k : Int) : Int) < (((((parts s).length) : Nat) : Int) : Int)) (by kernel_rfl) (fun q3 => ?_) (fun q3 => ?_)
  refine at_skip (nx_seq (at_seq (at_block (at_seq (at_region ?_)))))
  have h5 := h1.keep h2 (by omega) (fun _ _ _ => by simp)
  refine ops_idx (e := 9) (i := (k : Int)) (kd := .i64) k (by kernel_rfl) (by kernel_rfl) (by kernel_rfl) (by kernel_rfl) (by kernel_rfl) (by kernel_rfl) h5.sl (by omega) (by first | omega | (simp only [List.length_append, List.length_cons, List.length_nil, List.length_take, List.length_drop, List.length_map]; omega)) (fun a1 h6 => ?_)
  have h7 := cell_sAt (l := parts s) (j := k) h6 (by omega)
  refine ops_load (by kernel_rfl) (by kernel_rfl) (by kernel_rfl) (by kernel_rfl) h7 ?_
  have hpl := parts_mem s ((parts s).getD k []) (getD_mem (by omega))
  refine ops_run1 (l' := [(2, .bool false), (4, S ((parts s).getD k [])), (15, v1), (16, .int .i64 (((((parts s).length) : Nat) : Int))), (17, .int .i64 ((k : Int)))]) (by kernel_rfl) ?_
  refine ops_nil (nx_seq (at_seq (at_seq (at_region ?_))))
  refine ops_run4 (l' := [(2, .bool false), (4, S ((parts s).getD k [])), (15, v1), (16, .int .i64 (((((parts s).length) : Nat) : Int))), (17, .int .i64 ((k : Int))), (24, .bool (decide ((((((parts s).getD k []).length : Nat) : Int) : Int) < (1 : Int))))]) (by kernel_rfl) ?_
  by_cases q4 : (((((parts s).getD k []).length : Nat) : Int) : Int) < (1 : Int)
  rw [show (decide ((((((parts s).getD k []).length : Nat) : Int) : Int) < (1 : Int))) = true from decide_eq_true q4]
  refine ops_run17 (l' := [(2, .bool false), (4, S ((parts s).getD k [])), (15, v1), (16, .int .i64 (((((parts s).length) : Nat) : Int))), (17, .int .i64 ((k : Int))), (41, .bool true)]) (by kernel_rfl) ?_
  refine ops_nil (nx_seq ?_)
  refine at_ift (by kernel_rfl) ?_
  refine at_seq (at_region ?_)
  refine ops_run1 (l' := [(2, .bool false), (4, S ((parts s).getD k [])), (15, v1), (16, .int .i64 (((((parts s).length) : Nat) : Int))), (17, .int .i64 ((k : Int)))]) (by kernel_rfl) ?_
  refine ops_nil (nx_seq ?_)
  refine at_ret (rs := [.tmp 2]) (vs := [.bool false]) rfl (by kernel_rfl) ?_
  exact ⟨_, rfl, (congrArg Value.bool (decide_eq_false (p := domainP s) (by first | (rintro ⟨h1, h2⟩; first | omega | (have h3 := h2 [] (by rw [List.eq_nil_of_length_eq_zero (l := s) (by omega)]; simp [parts]); exact h3.1 rfl) | (obtain ⟨g1, g2, g3, g4, g5⟩ := h2 ((parts s).getD k []) (getD_mem (by omega)); first | contradiction | (have := List.length_pos_iff.2 g1; omega) | (rcases g5 i (by omega) with h6 | h6 <;> contradiction))))).symm), (((Chg.refl [] w).step0 c1 (by omega)).step0 h2 (by omega))⟩
  rw [show (decide ((((((parts s).getD k []).length : Nat) : Int) : Int) < (1 : Int))) = false from decide_eq_false q4]
  refine ops_run5 (l' := [(2, .bool false), (4, S ((parts s).getD k [])), (15, v1), (16, .int .i64 (((((parts s).length) : Nat) : Int))), (17, .int .i64 ((k : Int))), (29, .bool (decide ((((((parts s).getD k []).length : Nat) : Int) : Int) > (63 : Int))))]) (by kernel_rfl) ?_
  by_cases q5 : (((((parts s).getD k []).length : Nat) : Int) : Int) > (63 : Int)
  rw [show (decide ((((((parts s).getD k []).length : Nat) : Int) : Int) > (63 : Int))) = true from decide_eq_true q5]
  refine ops_run12 (l' := [(2, .bool false), (4, S ((parts s).getD k [])), (15, v1), (16, .int .i64 (((((parts s).length) : Nat) : Int))), (17, .int .i64 ((k : Int))), (41, .bool true)]) (by kernel_rfl) ?_
  refine ops_nil (nx_seq ?_)
  refine at_ift (by kernel_rfl) ?_
  refine at_seq (at_region ?_)
  refine ops_run1 (l' := [(2, .bool false), (4, S ((parts s).getD k [])), (15, v1), (16, .int .i64 (((((parts s).length) : Nat) : Int))), (17, .int .i64 ((k : Int)))]) (by kernel_rfl) ?_
  refine ops_nil (nx_seq ?_)
  refine at_ret (rs := [.tmp 2]) (vs := [.bool false]) rfl (by kernel_rfl) ?_
  exact ⟨_, rfl, (congrArg Value.bool (decide_eq_false (p := domainP s) (by first | (rintro ⟨h1, h2⟩; first | omega | (have h3 := h2 [] (by rw [List.eq_nil_of_length_eq_zero (l := s) (by omega)]; simp [parts]); exact h3.1 rfl) | (obtain ⟨g1, g2, g3, g4, g5⟩ := h2 ((parts s).getD k []) (getD_mem (by omega)); first | contradiction | (have := List.length_pos_iff.2 g1; omega) | (rcases g5 i (by omega) with h6 | h6 <;> contradiction))))).symm), (((Chg.refl [] w).step0 c1 (by omega)).step0 h2 (by omega))⟩
  rw [show (decide ((((((parts s).getD k []).length : Nat) : Int) : Int) > (63 : Int))) = false from decide_eq_false q5]
  refine ops_run1 (l' := [(2, .bool false), (4, S ((parts s).getD k [])), (15, v1), (16, .int .i64 (((((parts s).length) : Nat) : Int))), (17, .int .i64 ((k : Int))), (29, .bool false), (30, S ((parts s).getD k []))]) (by kernel_rfl) ?_
  refine ops_at (b := (parts s).getD k []) (i := 0) (kd := .i64) 0 (by kernel_rfl) (by kernel_rfl) (by kernel_rfl) (by kernel_rfl) (by kernel_rfl) (by omega) (by omega) ?_
  have r1 := bAt_range ((parts s).getD k []) 0
  refine ops_run3 (l' := [(2, .bool false), (4, S ((parts s).getD k [])), (15, v1), (16, .int .i64 (((((parts s).length) : Nat) : Int))), (17, .int .i64 ((k : Int))), (34, .bool (decide ((bAt ((parts s).getD k []) 0 : Int) = (45 : Int))))]) (by kernel_rfl) ?_
  by_cases q6 : (bAt ((parts s).getD k []) 0 : Int) = (45 : Int)
  rw [show (decide ((bAt ((parts s).getD k []) 0 : Int) = (45 : Int))) = true from decide_eq_true q6]
  refine ops_run7 (l' := [(2, .bool false), (4, S ((parts s).getD k [])), (15, v1), (16, .int .i64 (((((parts s).length) : Nat) : Int))), (17, .int .i64 ((k : Int))), (41, .bool true)]) (by kernel_rfl) ?_
  refine ops_nil (nx_seq ?_)
  refine at_ift (by kernel_rfl) ?_
  refine at_seq (at_region ?_)
  refine ops_run1 (l' := [(2, .bool false), (4, S ((parts s).getD k [])), (15, v1), (16, .int .i64 (((((parts s).length) : Nat) : Int))), (17, .int .i64 ((k : Int)))]) (by kernel_rfl) ?_
  refine ops_nil (nx_seq ?_)
  refine at_ret (rs := [.tmp 2]) (vs := [.bool false]) rfl (by kernel_rfl) ?_
  exact ⟨_, rfl, (congrArg Value.bool (decide_eq_false (p := domainP s) (by first | (rintro ⟨h1, h2⟩; first | omega | (have h3 := h2 [] (by rw [List.eq_nil_of_length_eq_zero (l := s) (by omega)]; simp [parts]); exact h3.1 rfl) | (obtain ⟨g1, g2, g3, g4, g5⟩ := h2 ((parts s).getD k []) (getD_mem (by omega)); first | contradiction | (have := List.length_pos_iff.2 g1; omega) | (rcases g5 i (by omega) with h6 | h6 <;> contradiction))))).symm), (((Chg.refl [] w).step0 c1 (by omega)).step0 h2 (by omega))⟩
  rw [show (decide ((bAt ((parts s).getD k []) 0 : Int) = (45 : Int))) = false from decide_eq_false q6]
  refine ops_run3 (l' := [(2, .bool false), (4, S ((parts s).getD k [])), (15, v1), (16, .int .i64 (((((parts s).length) : Nat) : Int))), (17, .int .i64 ((k : Int))), (34, .bool false), (35, S ((parts s).getD k [])), (37, .int .i64 (((((parts s).getD k []).length : Nat) : Int)))]) (by kernel_rfl) ?_
  refine ops_sub_ (a := ((((parts s).getD k []).length : Nat) : Int)) (b := 1) (kd := .i64) (by kernel_rfl) (by kernel_rfl) (by kernel_rfl) (by kernel_rfl) (show (-9223372036854775808 : Int) ≤ (((((parts s).getD k []).length : Nat) : Int)) - 1 by omega) (show (((((parts s).getD k []).length : Nat) : Int)) - 1 ≤ (9223372036854775807 : Int) by omega) ?_
  refine ops_at (b := (parts s).getD k []) (i := (((((parts s).getD k []).length : Nat) : Int)) - 1) (kd := .i64) ((((parts s).getD k []).length) - 1) (by kernel_rfl) (by kernel_rfl) (by kernel_rfl) (by kernel_rfl) (by kernel_rfl) (by omega) (by omega) ?_
  have r2 := bAt_range ((parts s).getD k []) ((((parts s).getD k []).length) - 1)
  refine ops_run2 (l' := [(2, .bool false), (4, S ((parts s).getD k [])), (15, v1), (16, .int .i64 (((((parts s).length) : Nat) : Int))), (17, .int .i64 ((k : Int))), (41, .bool (decide ((bAt ((parts s).getD k []) ((((parts s).getD k []).length) - 1) : Int) = (45 : Int))))]) (by kernel_rfl) ?_
  refine ops_nil (nx_seq ?_)
  refine at_ifp ((bAt ((parts s).getD k []) ((((parts s).getD k []).length) - 1) : Int) = (45 : Int)) (by kernel_rfl) (fun q7 => ?_) (fun q7 => ?_)
  refine at_seq (at_region ?_)
  refine ops_run1 (l' := [(2, .bool false), (4, S ((parts s).getD k [])), (15, v1), (16, .int .i64 (((((parts s).length) : Nat) : Int))), (17, .int .i64 ((k : Int)))]) (by kernel_rfl) ?_
  refine ops_nil (nx_seq ?_)
  refine at_ret (rs := [.tmp 2]) (vs := [.bool false]) rfl (by kernel_rfl) ?_
  exact ⟨_, rfl, (congrArg Value.bool (decide_eq_false (p := domainP s) (by first | (rintro ⟨h1, h2⟩; first | omega | (have h3 := h2 [] (by rw [List.eq_nil_of_length_eq_zero (l := s) (by omega)]; simp [parts]); exact h3.1 rfl) | (obtain ⟨g1, g2, g3, g4, g5⟩ := h2 ((parts s).getD k []) (getD_mem (by omega)); first | contradiction | (have := List.length_pos_iff.2 g1; omega) | (rcases g5 i (by omega) with h6 | h6 <;> contradiction))))).symm), (((Chg.refl [] w).step0 c1 (by omega)).step0 h2 (by omega))⟩
  refine at_skip (nx_seq (at_seq (at_region ?_)))
  refine ops_run1 (l' := [(2, .bool false), (4, S ((parts s).getD k [])), (5, .int .i64 0), (15, v1), (16, .int .i64 (((((parts s).length) : Nat) : Int))), (17, .int .i64 ((k : Int)))]) (by kernel_rfl) ?_
  refine ops_nil (nx_seq (at_block ?_))
  refine at_loop (X := Nat) (fun x_ => [(2, .bool false), (4, S ((parts s).getD k [])), (5, .int .i64 ((x_ : Int))), (15, v1), (16, .int .i64 (((((parts s).length) : Nat) : Int))), (17, .int .i64 ((k : Int)))]) (fun x_ W2 => Chg [] (w2.heap.size) w2 W2 ∧ (x_ ≤ ((parts s).getD k []).length) ∧ (∀ j, j < x_ → letterP (bAt ((parts s).getD k []) j) ∨ bAt ((parts s).getD k []) j = 45)) (fun x_ => ((parts s).getD k []).length - x_) 0 (proj_sub [2, 4, 5, 15, 16, 17] (by kernel_rfl)) ⟨(Chg.refl [] w2), (show 0 ≤ ((parts s).getD k []).length by first | omega | (simp only [List.length_append, List.length_cons, List.length_nil, List.length_take, List.length_drop, List.length_map]; omega)), (show ∀ j, j < 0 → letterP (bAt ((parts s).getD k []) j) ∨ bAt ((parts s).getD k []) j = 45 by intro q hq; omega)⟩ ?_
  rintro i w3 ⟨h8, h9, h10⟩
  replace h8 : Chg [] (w2.heap.size) w2 w3 := h8
  replace h9 : (i ≤ ((parts s).getD k []).length) := h9
  replace h10 : (∀ j, j < i → letterP (bAt ((parts s).getD k []) j) ∨ bAt ((parts s).getD k []) j = 45) := h10
  have z3 := h8.size
  have hall2 := h10
  refine at_seq (at_seq (at_region ?_))
  refine ops_run4 (l' := [(2, .bool false), (4, S ((parts s).getD k [])), (5, .int .i64 ((i : Int))), (15, v1), (16, .int .i64 (((((parts s).length) : Nat) : Int))), (17, .int .i64 ((k : Int))), (45, .bool (decide (((i : Int) : Int) < (((((parts s).getD k []).length : Nat) : Int) : Int))))]) (by kernel_rfl) ?_
  refine ops_nil (nx_seq ?_)
  refine at_ifp (((i : Int) : Int) < (((((parts s).getD k []).length : Nat) : Int) : Int)) (by kernel_rfl) (fun q8 => ?_) (fun q8 => ?_)
  refine at_skip (nx_seq (at_seq (at_block (at_seq (at_region ?_)))))
  refine ops_run2 (l' := [(2, .bool false), (4, S ((parts s).getD k [])), (5, .int .i64 ((i : Int))), (15, v1), (16, .int .i64 (((((parts s).length) : Nat) : Int))), (17, .int .i64 ((k : Int))), (48, S ((parts s).getD k [])), (49, .int .i64 ((i : Int)))]) (by kernel_rfl) ?_
  refine ops_at (b := (parts s).getD k []) (i := (i : Int)) (kd := .i64) i (by kernel_rfl) (by kernel_rfl) (by kernel_rfl) (by kernel_rfl) (by kernel_rfl) (by omega) (by omega) ?_
  have r3 := bAt_range ((parts s).getD k []) i
  refine ops_callr (by kernel_rfl) (by kernel_rfl) (by kernel_rfl) (letter_ok (((parts s).getD k []).getD i 0) w3) ?_
  rintro _ w4 ⟨rfl, c2⟩
  have z4 := c2.size
  refine ops_run2 (l' := [(2, .bool false), (4, S ((parts s).getD k [])), (5, .int .i64 ((i : Int))), (15, v1), (16, .int .i64 (((((parts s).length) : Nat) : Int))), (17, .int .i64 ((k : Int))), (53, .bool (!(decide (letterP (bAt ((parts s).getD k []) i)))))]) (by kernel_rfl) ?_
  by_cases q9 : letterP (bAt ((parts s).getD k []) i)
  rw [show (decide (letterP (bAt ((parts s).getD k []) i))) = true from decide_eq_true q9]
  refine ops_run5 (l' := [(2, .bool false), (4, S ((parts s).getD k [])), (5, .int .i64 ((i : Int))), (15, v1), (16, .int .i64 (((((parts s).length) : Nat) : Int))), (17, .int .i64 ((k : Int))), (58, .bool false)]) (by kernel_rfl) ?_
  refine ops_nil (nx_seq ?_)
  refine at_iff (by kernel_rfl) ?_
  refine at_skip (nx_blk (nx_seq (at_region ?_)))
  refine ops_run1 (l' := [(2, .bool false), (4, S ((parts s).getD k [])), (5, .int .i64 ((i : Int))), (15, v1), (16, .int .i64 (((((parts s).length) : Nat) : Int))), (17, .int .i64 ((k : Int))), (46, .int .i64 ((i : Int)))]) (by kernel_rfl) ?_
  refine ops_add (a := (i : Int)) (b := 1) (kd := .i64) (by kernel_rfl) (by kernel_rfl) (by kernel_rfl) (by kernel_rfl) (show (-9223372036854775808 : Int) ≤ ((i : Int)) + 1 by omega) (show ((i : Int)) + 1 ≤ (9223372036854775807 : Int) by omega) ?_
  refine ops_run1 (l' := [(2, .bool false), (4, S ((parts s).getD k [])), (5, .int .i64 (((i : Int)) + 1)), (15, v1), (16, .int .i64 (((((parts s).length) : Nat) : Int))), (17, .int .i64 ((k : Int)))]) (by kernel_rfl) ?_
  refine ops_nil ?_
  refine nx_round ((i) + 1) (proj_sub [2, 4, 5, 15, 16, 17] (by kernel_rfl)) ⟨(((Chg.refl [] w2).step0 h8 (by omega)).step0 c2 (by omega)), (show ((i) + 1) ≤ ((parts s).getD k []).length by first | omega | (simp only [List.length_append, List.length_cons, List.length_nil, List.length_take, List.length_drop, List.length_map]; omega)), (show ∀ j, j < ((i) + 1) → letterP (bAt ((parts s).getD k []) j) ∨ bAt ((parts s).getD k []) j = 45 by exact fun j hj => if e : j = i then (by rw [e]; first | exact .inl (by assumption) | exact .inr (by assumption)) else hall2 j (by omega))⟩ (show ((parts s).getD k []).length - ((i) + 1) < ((parts s).getD k []).length - i by omega)
  rw [show (decide (letterP (bAt ((parts s).getD k []) i))) = false from decide_eq_false q9]
  refine ops_run2 (l' := [(2, .bool false), (4, S ((parts s).getD k [])), (5, .int .i64 ((i : Int))), (15, v1), (16, .int .i64 (((((parts s).length) : Nat) : Int))), (17, .int .i64 ((k : Int))), (53, .bool true), (54, S ((parts s).getD k [])), (55, .int .i64 ((i : Int)))]) (by kernel_rfl) ?_
  refine ops_at (b := (parts s).getD k []) (i := (i : Int)) (kd := .i64) i (by kernel_rfl) (by kernel_rfl) (by kernel_rfl) (by kernel_rfl) (by kernel_rfl) (by omega) (by omega) ?_
  have r4 := bAt_range ((parts s).getD k []) i
  refine ops_run2 (l' := [(2, .bool false), (4, S ((parts s).getD k [])), (5, .int .i64 ((i : Int))), (15, v1), (16, .int .i64 (((((parts s).length) : Nat) : Int))), (17, .int .i64 ((k : Int))), (58, .bool (!(decide ((bAt ((parts s).getD k []) i : Int) = (45 : Int)))))]) (by kernel_rfl) ?_
  refine ops_nil (nx_seq ?_)
  refine at_ifn ((bAt ((parts s).getD k []) i : Int) = (45 : Int)) (by kernel_rfl) (fun q10 => ?_) (fun q10 => ?_)
  refine at_seq (at_region ?_)
  refine ops_run1 (l' := [(2, .bool false), (4, S ((parts s).getD k [])), (5, .int .i64 ((i : Int))), (15, v1), (16, .int .i64 (((((parts s).length) : Nat) : Int))), (17, .int .i64 ((k : Int)))]) (by kernel_rfl) ?_
  refine ops_nil (nx_seq ?_)
  refine at_ret (rs := [.tmp 2]) (vs := [.bool false]) rfl (by kernel_rfl) ?_
  exact ⟨_, rfl, (congrArg Value.bool (decide_eq_false (p := domainP s) (by first | (rintro ⟨h1, h2⟩; first | omega | (have h3 := h2 [] (by rw [List.eq_nil_of_length_eq_zero (l := s) (by omega)]; simp [parts]); exact h3.1 rfl) | (obtain ⟨g1, g2, g3, g4, g5⟩ := h2 ((parts s).getD k []) (getD_mem (by omega)); first | contradiction | (have := List.length_pos_iff.2 g1; omega) | (rcases g5 i (by omega) with h6 | h6 <;> contradiction))))).symm), (((((Chg.refl [] w).step0 c1 (by omega)).step0 h2 (by omega)).step0 h8 (by omega)).step0 c2 (by omega))⟩
  refine at_skip (nx_blk (nx_seq (at_region ?_)))
  refine ops_run1 (l' := [(2, .bool false), (4, S ((parts s).getD k [])), (5, .int .i64 ((i : Int))), (15, v1), (16, .int .i64 (((((parts s).length) : Nat) : Int))), (17, .int .i64 ((k : Int))), (46, .int .i64 ((i : Int)))]) (by kernel_rfl) ?_
  refine ops_add (a := (i : Int)) (b := 1) (kd := .i64) (by kernel_rfl) (by kernel_rfl) (by kernel_rfl) (by kernel_rfl) (show (-9223372036854775808 : Int) ≤ ((i : Int)) + 1 by omega) (show ((i : Int)) + 1 ≤ (9223372036854775807 : Int) by omega) ?_
  refine ops_run1 (l' := [(2, .bool false), (4, S ((parts s).getD k [])), (5, .int .i64 (((i : Int)) + 1)), (15, v1), (16, .int .i64 (((((parts s).length) : Nat) : Int))), (17, .int .i64 ((k : Int)))]) (by kernel_rfl) ?_
  refine ops_nil ?_
  refine nx_round ((i) + 1) (proj_sub [2, 4, 5, 15, 16, 17] (by kernel_rfl)) ⟨(((Chg.refl [] w2).step0 h8 (by omega)).step0 c2 (by omega)), (show ((i) + 1) ≤ ((parts s).getD k []).length by first | omega | (simp only [List.length_append, List.length_cons, List.length_nil, List.length_take, List.length_drop, List.length_map]; omega)), (show ∀ j, j < ((i) + 1) → letterP (bAt ((parts s).getD k []) j) ∨ bAt ((parts s).getD k []) j = 45 by exact fun j hj => if e : j = i then (by rw [e]; first | exact .inl (by assumption) | exact .inr (by assumption)) else hall2 j (by omega))⟩ (show ((parts s).getD k []).length - ((i) + 1) < ((parts s).getD k []).length - i by omega)
  refine at_exit (ex_seq (ex_inv (ex_here (nx_blk (nx_seq (at_region ?_))))))
  refine ops_add (a := (k : Int)) (b := 1) (kd := .i64) (by kernel_rfl) (by kernel_rfl) (by kernel_rfl) (by kernel_rfl) (show (-9223372036854775808 : Int) ≤ ((k : Int)) + 1 by omega) (show ((k : Int)) + 1 ≤ (9223372036854775807 : Int) by omega) ?_
  refine ops_run1 (l' := [(2, .bool false), (15, v1), (16, .int .i64 (((((parts s).length) : Nat) : Int))), (17, .int .i64 (((k : Int)) + 1))]) (by kernel_rfl) ?_
  refine ops_nil ?_
  refine nx_round ((k) + 1) (proj_sub [2, 15, 16, 17] (by kernel_rfl)) ⟨(((Chg.refl [] w1).step0 h2 (by omega)).step0 h8 (by omega)), (show ((k) + 1) ≤ (parts s).length by first | omega | (simp only [List.length_append, List.length_cons, List.length_nil, List.length_take, List.length_drop, List.length_map]; omega)), (show ∀ q, q < ((k) + 1) → labelP ((parts s).getD q []) by exact fun q hq => if e : q = k then (by rw [e]; exact ⟨List.length_pos_iff.1 (by omega), by omega, by assumption, by assumption, fun j hj => hall2 j (by omega)⟩) else hall q (by omega))⟩ (show (parts s).length - ((k) + 1) < (parts s).length - k by omega)
  refine at_exit (ex_seq (ex_inv (ex_here (nx_seq (at_seq (at_region ?_))))))
  refine ops_run1 (l' := [(2, .bool true)]) (by kernel_rfl) ?_
  refine ops_nil (nx_seq ?_)
  refine at_ret (rs := [.tmp 2]) (vs := [.bool true]) rfl (by kernel_rfl) ?_
  exact ⟨_, rfl, (congrArg Value.bool (decide_eq_true (p := domainP s) (by exact ⟨by omega, all_of_getD (d := []) (fun q hq => hall q (by omega))⟩)).symm), (((Chg.refl [] w).step0 c1 (by omega)).step0 h2 (by omega))⟩
theorem rMailbox_ok (s : Bytes) (hs : s.length < 4611686018427387904) (w : World) : Pu Tryd.prog 109 #[S s] w (.bool (decide (mailboxP s))) := by
  have hpc := parts_count (s.take (lastB s 64).toNat)
  simp only [List.length_take] at hpc
  refine enter (n := 46) (args := [S s]) Tryd.func109 rfl rfl (Nat.le_of_ble_eq_true (by kernel_rfl)) ?_
  refine at_seq (at_region ?_)
  refine ops_run1 (l' := [(0, S s), (2, .bool false)]) (by kernel_rfl) ?_
  refine ops_nil (nx_seq (at_seq (at_region ?_)))
  refine ops_run1 (l' := [(0, S s), (2, .bool false), (7, S s)]) (by kernel_rfl) ?_
  refine ops_callr (by kernel_rfl) (by kernel_rfl) (by kernel_rfl) (last_ok s 64 (by omega) w) ?_
  rintro _ w1 ⟨rfl, c1⟩
  have z1 := c1.size
  have r1 := lastB_lt s 64
  refine ops_run1 (l' := [(0, S s), (2, .bool false), (3, .int .i64 (lastB s 64))]) (by kernel_rfl) ?_
  refine ops_nil (nx_seq (at_seq (at_seq (at_region ?_))))
  refine ops_run3 (l' := [(0, S s), (2, .bool false), (3, .int .i64 (lastB s 64)), (11, .bool (decide ((lastB s 64 : Int) < (1 : Int))))]) (by kernel_rfl) ?_
  by_cases q1 : (lastB s 64 : Int) < (1 : Int)
  rw [show (decide ((lastB s 64 : Int) < (1 : Int))) = true from decide_eq_true q1]
  refine ops_run11 (l' := [(0, S s), (2, .bool false), (3, .int .i64 (lastB s 64)), (22, .bool true)]) (by kernel_rfl) ?_
  refine ops_nil (nx_seq ?_)
  refine at_ift (by kernel_rfl) ?_
  refine at_seq (at_region ?_)
  refine ops_run1 (l' := [(0, S s), (2, .bool false), (3, .int .i64 (lastB s 64))]) (by kernel_rfl) ?_
  refine ops_nil (nx_seq ?_)
  refine at_ret (rs := [.tmp 2]) (vs := [.bool false]) rfl (by kernel_rfl) ?_
  exact ⟨_, rfl, (congrArg Value.bool (decide_eq_false (p := mailboxP s) (by rintro ⟨h1, h2, h3, h4⟩; first | omega | contradiction | (obtain ⟨g1, g2⟩ := h4 ((parts (s.take (lastB s 64).toNat)).getD k []) (getD_mem (by omega)); first | contradiction | (have := g2 i (by omega); contradiction)))).symm), ((Chg.refl [] w).step0 c1 (by omega))⟩
  rw [show (decide ((lastB s 64 : Int) < (1 : Int))) = false from decide_eq_false q1]
  refine ops_run4 (l' := [(0, S s), (2, .bool false), (3, .int .i64 (lastB s 64)), (15, .bool (decide ((lastB s 64 : Int) > (64 : Int))))]) (by kernel_rfl) ?_
  by_cases q2 : (lastB s 64 : Int) > (64 : Int)
  rw [show (decide ((lastB s 64 : Int) > (64 : Int))) = true from decide_eq_true q2]
  refine ops_run7 (l' := [(0, S s), (2, .bool false), (3, .int .i64 (lastB s 64)), (22, .bool true)]) (by kernel_rfl) ?_
  refine ops_nil (nx_seq ?_)
  refine at_ift (by kernel_rfl) ?_
  refine at_seq (at_region ?_)
  refine ops_run1 (l' := [(0, S s), (2, .bool false), (3, .int .i64 (lastB s 64))]) (by kernel_rfl) ?_
  refine ops_nil (nx_seq ?_)
  refine at_ret (rs := [.tmp 2]) (vs := [.bool false]) rfl (by kernel_rfl) ?_
  exact ⟨_, rfl, (congrArg Value.bool (decide_eq_false (p := mailboxP s) (by rintro ⟨h1, h2, h3, h4⟩; first | omega | contradiction | (obtain ⟨g1, g2⟩ := h4 ((parts (s.take (lastB s 64).toNat)).getD k []) (getD_mem (by omega)); first | contradiction | (have := g2 i (by omega); contradiction)))).symm), ((Chg.refl [] w).step0 c1 (by omega))⟩
  rw [show (decide ((lastB s 64 : Int) > (64 : Int))) = false from decide_eq_false q2]
  refine ops_run2 (l' := [(0, S s), (2, .bool false), (3, .int .i64 (lastB s 64)), (15, .bool false), (16, S s), (17, .int .i64 (lastB s 64))]) (by kernel_rfl) ?_
  refine ops_add (a := lastB s 64) (b := 1) (kd := .i64) (by kernel_rfl) (by kernel_rfl) (by kernel_rfl) (by kernel_rfl) (show (-9223372036854775808 : Int) ≤ (lastB s 64) + 1 by omega) (show (lastB s 64) + 1 ≤ (9223372036854775807 : Int) by omega) ?_
  refine ops_fromS (s := s) (i := (lastB s 64) + 1) (kd := .i64) ((lastB s 64).toNat + 1) (by kernel_rfl) (by kernel_rfl) (by kernel_rfl) (by kernel_rfl) (by kernel_rfl) (by first | omega | (simp only [List.length_append, List.length_cons, List.length_nil, List.length_take, List.length_drop, List.length_map]; omega)) (by first | omega | (simp only [List.length_append, List.length_cons, List.length_nil, List.length_take, List.length_drop, List.length_map]; omega)) ?_
  refine ops_callr (by kernel_rfl) (by kernel_rfl) (by kernel_rfl) (rDomain_ok (s.drop ((lastB s 64).toNat + 1)) (by first | omega | (simp only [List.length_drop]; omega)) w1) ?_
  rintro _ w2 ⟨rfl, c2⟩
  have z2 := c2.size
  refine ops_run2 (l' := [(0, S s), (2, .bool false), (3, .int .i64 (lastB s 64)), (22, .bool (!(decide (domainP (s.drop ((lastB s 64).toNat + 1))))))]) (by kernel_rfl) ?_
  refine ops_nil (nx_seq ?_)
  refine at_ifn (domainP (s.drop ((lastB s 64).toNat + 1))) (by kernel_rfl) (fun q3 => ?_) (fun q3 => ?_)
  refine at_seq (at_region ?_)
  refine ops_run1 (l' := [(0, S s), (2, .bool false), (3, .int .i64 (lastB s 64))]) (by kernel_rfl) ?_
  refine ops_nil (nx_seq ?_)
  refine at_ret (rs := [.tmp 2]) (vs := [.bool false]) rfl (by kernel_rfl) ?_
  exact ⟨_, rfl, (congrArg Value.bool (decide_eq_false (p := mailboxP s) (by rintro ⟨h1, h2, h3, h4⟩; first | omega | contradiction | (obtain ⟨g1, g2⟩ := h4 ((parts (s.take (lastB s 64).toNat)).getD k []) (getD_mem (by omega)); first | contradiction | (have := g2 i (by omega); contradiction)))).symm), (((Chg.refl [] w).step0 c1 (by omega)).step0 c2 (by omega))⟩
  refine at_skip (nx_seq (at_seq (at_seq (at_region ?_))))
  refine ops_run2 (l' := [(2, .bool false), (23, S s), (24, .int .i64 (lastB s 64))]) (by kernel_rfl) ?_
  refine ops_uptoS (s := s) (i' := lastB s 64) (kd' := .i64) ((lastB s 64).toNat) (by kernel_rfl) (by kernel_rfl) (by kernel_rfl) (by kernel_rfl) (by kernel_rfl) (by first | omega | (simp only [List.length_append, List.length_cons, List.length_nil, List.length_take, List.length_drop, List.length_map]; omega)) (by first | omega | (simp only [List.length_append, List.length_cons, List.length_nil, List.length_take, List.length_drop, List.length_map]; omega)) ?_
  refine ops_callr (by kernel_rfl) (by kernel_rfl) (by kernel_rfl) (parts_ok (s.take ((lastB s 64).toNat)) (by first | omega | (simp only [List.length_take]; omega)) w2) ?_
  rintro v1 w3 ⟨h1, c3⟩
  have z3 := c3.size
  refine ops_len (e := 9) (by kernel_rfl) (by kernel_rfl) (by kernel_rfl) (by kernel_rfl) h1.sl ?_
  refine ops_run1 (l' := [(2, .bool false), (26, v1), (27, .int .i64 (((((parts (s.take ((lastB s 64).toNat))).length) : Nat) : Int))), (28, .int .i64 0)]) (by kernel_rfl) ?_
  refine ops_nil (nx_seq (at_block ?_))
  refine at_loop (X := Nat) (fun x_ => [(2, .bool false), (26, v1), (27, .int .i64 (((((parts (s.take ((lastB s 64).toNat))).length) : Nat) : Int))), (28, .int .i64 ((x_ : Int)))]) (fun x_ W1 => Chg [] (w3.heap.size) w3 W1 ∧ (x_ ≤ (parts (s.take (lastB s 64).toNat)).length) ∧ (∀ q, q < x_ → wordP ((parts (s.take (lastB s 64).toNat)).getD q []))) (fun x_ => (parts (s.take (lastB s 64).toNat)).length - x_) 0 (proj_sub [2, 26, 27, 28] (by kernel_rfl)) ⟨(Chg.refl [] w3), (show 0 ≤ (parts (s.take (lastB s 64).toNat)).length by first | omega | (simp only [List.length_append, List.length_cons, List.length_nil, List.length_take, List.length_drop, List.length_map]; omega)), (show ∀ q, q < 0 → wordP ((parts (s.take (lastB s 64).toNat)).getD q []) by intro q hq; omega)⟩ ?_
  rintro k w4 ⟨h2, h3, h4⟩
  replace h2 : Chg [] (w3.heap.size) w3 w4 := h2
  replace h3 : (k ≤ (parts (s.take (lastB s 64).toNat)).length) := h3
  replace h4 : (∀ q, q < k → wordP ((parts (s.take (lastB s 64).toNat)).getD q [])) := h4
  have z4 := h2.size
  have hall := h4
  refine at_seq (at_region ?_)
  refine ops_run1 (l' := [(2, .bool false), (26, v1), (27, .int .i64 (((((parts (s.take ((lastB s 64).toNat))).length) : Nat) : Int))), (28, .int .i64 ((k : Int))), (29, .bool (decide (((k : Int) : Int) < (((((parts (s.take ((lastB s 64).toNat))).length) : Nat) : Int) : Int))))]) (by kernel_rfl) ?_
  refine ops_nil (nx_seq (at_seq ?_))
  refine at_ifp (((k : Int) : Int) < (((((parts (s.take ((lastB s 64).toNat))).length) : Nat) : Int) : Int)) (by kernel_rfl) (fun q4 => ?_) (fun q4 => ?_)
  refine at_skip (nx_seq (at_seq (at_block (at_seq (at_region ?_)))))
  have h5 := h1.keep h2 (by omega) (fun _ _ _ => by simp)
  refine ops_idx (e := 9) (i := (k : Int)) (kd := .i64) k (by kernel_rfl) (by kernel_rfl) (by kernel_rfl) (by kernel_rfl) (by kernel_rfl) (by kernel_rfl) h5.sl (by omega) (by first | omega | (simp only [List.length_append, List.length_cons, List.length_nil, List.length_take, List.length_drop, List.length_map]; omega)) (fun a1 h6 => ?_)
  have h7 := cell_sAt (l := parts (s.take ((lastB s 64).toNat))) (j := k) h6 (by omega)
  refine ops_load (by kernel_rfl) (by kernel_rfl) (by kernel_rfl) (by kernel_rfl) h7 ?_
  have hpl := parts_mem (s.take (lastB s 64).toNat) ((parts (s.take (lastB s 64).toNat)).getD k []) (getD_mem (by omega))
  simp only [List.length_take] at hpl
  refine ops_run1 (l' := [(2, .bool false), (5, S ((parts (s.take ((lastB s 64).toNat))).getD k [])), (26, v1), (27, .int .i64 (((((parts (s.take ((lastB s 64).toNat))).length) : Nat) : Int))), (28, .int .i64 ((k : Int)))]) (by kernel_rfl) ?_
  refine ops_nil (nx_seq (at_seq (at_seq (at_region ?_))))
  refine ops_run1 (l' := [(2, .bool false), (5, S ((parts (s.take ((lastB s 64).toNat))).getD k [])), (26, v1), (27, .int .i64 (((((parts (s.take ((lastB s 64).toNat))).length) : Nat) : Int))), (28, .int .i64 ((k : Int))), (32, S ((parts (s.take ((lastB s 64).toNat))).getD k []))]) (by kernel_rfl) ?_
  refine ops_eqS (a := (parts (s.take ((lastB s 64).toNat))).getD k []) (b := []) (by kernel_rfl) (by kernel_rfl) (by kernel_rfl) (by kernel_rfl) ?_
  refine ops_nil (nx_seq ?_)
  refine at_ifp (((parts (s.take ((lastB s 64).toNat))).getD k [] : Bytes) = []) (by kernel_rfl) (fun q5 => ?_) (fun q5 => ?_)
  have l1 : ((parts (s.take ((lastB s 64).toNat))).getD k []).length = 0 := by rw [q5]; rfl
  refine at_seq (at_region ?_)
  refine ops_run1 (l' := [(2, .bool false), (5, S ((parts (s.take ((lastB s 64).toNat))).getD k [])), (26, v1), (27, .int .i64 (((((parts (s.take ((lastB s 64).toNat))).length) : Nat) : Int))), (28, .int .i64 ((k : Int)))]) (by kernel_rfl) ?_
  refine ops_nil (nx_seq ?_)
  refine at_ret (rs := [.tmp 2]) (vs := [.bool false]) rfl (by kernel_rfl) ?_
  exact ⟨_, rfl, (congrArg Value.bool (decide_eq_false (p := mailboxP s) (by rintro ⟨h1, h2, h3, h4⟩; first | omega | contradiction | (obtain ⟨g1, g2⟩ := h4 ((parts (s.take (lastB s 64).toNat)).getD k []) (getD_mem (by omega)); first | contradiction | (have := g2 i (by omega); contradiction)))).symm), (((((Chg.refl [] w).step0 c1 (by omega)).step0 c2 (by omega)).step0 c3 (by omega)).step0 h2 (by omega))⟩
  have l2 := List.length_pos_iff.2 q5
  refine at_skip (nx_seq (at_seq (at_region ?_)))
  refine ops_run1 (l' := [(2, .bool false), (5, S ((parts (s.take ((lastB s 64).toNat))).getD k [])), (6, .int .i64 0), (26, v1), (27, .int .i64 (((((parts (s.take ((lastB s 64).toNat))).length) : Nat) : Int))), (28, .int .i64 ((k : Int)))]) (by kernel_rfl) ?_
  refine ops_nil (nx_seq (at_block ?_))
  refine at_loop (X := Nat) (fun x_ => [(2, .bool false), (5, S ((parts (s.take ((lastB s 64).toNat))).getD k [])), (6, .int .i64 ((x_ : Int))), (26, v1), (27, .int .i64 (((((parts (s.take ((lastB s 64).toNat))).length) : Nat) : Int))), (28, .int .i64 ((k : Int)))]) (fun x_ W2 => Chg [] (w4.heap.size) w4 W2 ∧ (x_ ≤ ((parts (s.take (lastB s 64).toNat)).getD k []).length) ∧ (∀ j, j < x_ → letterP (bAt ((parts (s.take (lastB s 64).toNat)).getD k []) j) ∨ markP (bAt ((parts (s.take (lastB s 64).toNat)).getD k []) j))) (fun x_ => ((parts (s.take (lastB s 64).toNat)).getD k []).length - x_) 0 (proj_sub [2, 5, 6, 26, 27, 28] (by kernel_rfl)) ⟨(Chg.refl [] w4), (show 0 ≤ ((parts (s.take (lastB s 64).toNat)).getD k []).length by first | omega | (simp only [List.length_append, List.length_cons, List.length_nil, List.length_take, List.length_drop, List.length_map]; omega)), (show ∀ j, j < 0 → letterP (bAt ((parts (s.take (lastB s 64).toNat)).getD k []) j) ∨ markP (bAt ((parts (s.take (lastB s 64).toNat)).getD k []) j) by intro q hq; omega)⟩ ?_
  rintro i w5 ⟨h8, h9, h10⟩
  replace h8 : Chg [] (w4.heap.size) w4 w5 := h8
  replace h9 : (i ≤ ((parts (s.take (lastB s 64).toNat)).getD k []).length) := h9
  replace h10 : (∀ j, j < i → letterP (bAt ((parts (s.take (lastB s 64).toNat)).getD k []) j) ∨ markP (bAt ((parts (s.take (lastB s 64).toNat)).getD k []) j)) := h10
  have z5 := h8.size
  have hall2 := h10
  refine at_seq (at_seq (at_region ?_))
  refine ops_run4 (l' := [(2, .bool false), (5, S ((parts (s.take ((lastB s 64).toNat))).getD k [])), (6, .int .i64 ((i : Int))), (26, v1), (27, .int .i64 (((((parts (s.take ((lastB s 64).toNat))).length) : Nat) : Int))), (28, .int .i64 ((k : Int))), (37, .bool (decide (((i : Int) : Int) < (((((parts (s.take ((lastB s 64).toNat))).getD k []).length : Nat) : Int) : Int))))]) (by kernel_rfl) ?_
  refine ops_nil (nx_seq ?_)
  refine at_ifp (((i : Int) : Int) < (((((parts (s.take ((lastB s 64).toNat))).getD k []).length : Nat) : Int) : Int)) (by kernel_rfl) (fun q6 => ?_) (fun q6 => ?_)
  refine at_skip (nx_seq (at_seq (at_block (at_seq (at_region ?_)))))
  refine ops_run2 (l' := [(2, .bool false), (5, S ((parts (s.take ((lastB s 64).toNat))).getD k [])), (6, .int .i64 ((i : Int))), (26, v1), (27, .int .i64 (((((parts (s.take ((lastB s 64).toNat))).length) : Nat) : Int))), (28, .int .i64 ((k : Int))), (40, S ((parts (s.take ((lastB s 64).toNat))).getD k [])), (41, .int .i64 ((i : Int)))]) (by kernel_rfl) ?_
  refine ops_at (b := (parts (s.take ((lastB s 64).toNat))).getD k []) (i := (i : Int)) (kd := .i64) i (by kernel_rfl) (by kernel_rfl) (by kernel_rfl) (by kernel_rfl) (by kernel_rfl) (by omega) (by omega) ?_
  have r2 := bAt_range ((parts (s.take ((lastB s 64).toNat))).getD k []) i
  refine ops_callr (by kernel_rfl) (by kernel_rfl) (by kernel_rfl) (atom_ok (((parts (s.take ((lastB s 64).toNat))).getD k []).getD i 0) w5) ?_
  rintro _ w6 ⟨rfl, c4⟩
  have z6 := c4.size
  refine ops_run1 (l' := [(2, .bool false), (5, S ((parts (s.take ((lastB s 64).toNat))).getD k [])), (6, .int .i64 ((i : Int))), (26, v1), (27, .int .i64 (((((parts (s.take ((lastB s 64).toNat))).length) : Nat) : Int))), (28, .int .i64 ((k : Int))), (44, .bool (!(decide (letterP (bAt ((parts (s.take ((lastB s 64).toNat))).getD k []) i) ∨ markP (bAt ((parts (s.take ((lastB s 64).toNat))).getD k []) i)))))]) (by kernel_rfl) ?_
  refine ops_nil (nx_seq ?_)
  refine at_ifn (letterP (bAt ((parts (s.take ((lastB s 64).toNat))).getD k []) i) ∨ markP (bAt ((parts (s.take ((lastB s 64).toNat))).getD k []) i)) (by kernel_rfl) (fun q7 => ?_) (fun q7 => ?_)
  refine at_seq (at_region ?_)
  refine ops_run1 (l' := [(2, .bool false), (5, S ((parts (s.take ((lastB s 64).toNat))).getD k [])), (6, .int .i64 ((i : Int))), (26, v1), (27, .int .i64 (((((parts (s.take ((lastB s 64).toNat))).length) : Nat) : Int))), (28, .int .i64 ((k : Int)))]) (by kernel_rfl) ?_
  refine ops_nil (nx_seq ?_)
  refine at_ret (rs := [.tmp 2]) (vs := [.bool false]) rfl (by kernel_rfl) ?_
  exact ⟨_, rfl, (congrArg Value.bool (decide_eq_false (p := mailboxP s) (by rintro ⟨h1, h2, h3, h4⟩; first | omega | contradiction | (obtain ⟨g1, g2⟩ := h4 ((parts (s.take (lastB s 64).toNat)).getD k []) (getD_mem (by omega)); first | contradiction | (have := g2 i (by omega); contradiction)))).symm), (((((((Chg.refl [] w).step0 c1 (by omega)).step0 c2 (by omega)).step0 c3 (by omega)).step0 h2 (by omega)).step0 h8 (by omega)).step0 c4 (by omega))⟩
  refine at_skip (nx_blk (nx_seq (at_region ?_)))
  refine ops_run1 (l' := [(2, .bool false), (5, S ((parts (s.take ((lastB s 64).toNat))).getD k [])), (6, .int .i64 ((i : Int))), (26, v1), (27, .int .i64 (((((parts (s.take ((lastB s 64).toNat))).length) : Nat) : Int))), (28, .int .i64 ((k : Int))), (38, .int .i64 ((i : Int)))]) (by kernel_rfl) ?_
  refine ops_add (a := (i : Int)) (b := 1) (kd := .i64) (by kernel_rfl) (by kernel_rfl) (by kernel_rfl) (by kernel_rfl) (show (-9223372036854775808 : Int) ≤ ((i : Int)) + 1 by omega) (show ((i : Int)) + 1 ≤ (9223372036854775807 : Int) by omega) ?_
  refine ops_run1 (l' := [(2, .bool false), (5, S ((parts (s.take ((lastB s 64).toNat))).getD k [])), (6, .int .i64 (((i : Int)) + 1)), (26, v1), (27, .int .i64 (((((parts (s.take ((lastB s 64).toNat))).length) : Nat) : Int))), (28, .int .i64 ((k : Int)))]) (by kernel_rfl) ?_
  refine ops_nil ?_
  refine nx_round ((i) + 1) (proj_sub [2, 5, 6, 26, 27, 28] (by kernel_rfl)) ⟨(((Chg.refl [] w4).step0 h8 (by omega)).step0 c4 (by omega)), (show ((i) + 1) ≤ ((parts (s.take (lastB s 64).toNat)).getD k []).length by first | omega | (simp only [List.length_append, List.length_cons, List.length_nil, List.length_take, List.length_drop, List.length_map]; omega)), (show ∀ j, j < ((i) + 1) → letterP (bAt ((parts (s.take (lastB s 64).toNat)).getD k []) j) ∨ markP (bAt ((parts (s.take (lastB s 64).toNat)).getD k []) j) by exact fun j hj => if e : j = i then (by rw [e]; assumption) else hall2 j (by omega))⟩ (show ((parts (s.take (lastB s 64).toNat)).getD k []).length - ((i) + 1) < ((parts (s.take (lastB s 64).toNat)).getD k []).length - i by omega)
  refine at_exit (ex_seq (ex_inv (ex_here (nx_blk (nx_seq (at_region ?_))))))
  refine ops_add (a := (k : Int)) (b := 1) (kd := .i64) (by kernel_rfl) (by kernel_rfl) (by kernel_rfl) (by kernel_rfl) (show (-9223372036854775808 : Int) ≤ ((k : Int)) + 1 by omega) (show ((k : Int)) + 1 ≤ (9223372036854775807 : Int) by omega) ?_
  refine ops_run1 (l' := [(2, .bool false), (26, v1), (27, .int .i64 (((((parts (s.take ((lastB s 64).toNat))).length) : Nat) : Int))), (28, .int .i64 (((k : Int)) + 1))]) (by kernel_rfl) ?_
  refine ops_nil ?_
  refine nx_round ((k) + 1) (proj_sub [2, 26, 27, 28] (by kernel_rfl)) ⟨(((Chg.refl [] w3).step0 h2 (by omega)).step0 h8 (by omega)), (show ((k) + 1) ≤ (parts (s.take (lastB s 64).toNat)).length by first | omega | (simp only [List.length_append, List.length_cons, List.length_nil, List.length_take, List.length_drop, List.length_map]; omega)), (show ∀ q, q < ((k) + 1) → wordP ((parts (s.take (lastB s 64).toNat)).getD q []) by exact fun q hq => if e : q = k then (by rw [e]; exact ⟨by assumption, fun j hj => hall2 j (by omega)⟩) else hall q (by omega))⟩ (show (parts (s.take (lastB s 64).toNat)).length - ((k) + 1) < (parts (s.take (lastB s 64).toNat)).length - k by omega)
  refine at_exit (ex_seq (ex_inv (ex_here (nx_seq (at_seq (at_region ?_))))))
  refine ops_run1 (l' := [(2, .bool true)]) (by kernel_rfl) ?_
  refine ops_nil (nx_seq ?_)
  refine at_ret (rs := [.tmp 2]) (vs := [.bool true]) rfl (by kernel_rfl) ?_
  exact ⟨_, rfl, (congrArg Value.bool (decide_eq_true (p := mailboxP s) (by exact ⟨by omega, by omega, by assumption, all_of_getD (d := []) (fun q hq => hall q (by omega))⟩)).symm), (((((Chg.refl [] w).step0 c1 (by omega)).step0 c2 (by omega)).step0 c3 (by omega)).step0 h2 (by omega))⟩

end Go.Proofs.YtnjkdnbabogcjaaDoor
